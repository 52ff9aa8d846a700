/- How Like's loop finds what a pattern stands for: plain Lean. -/
import Derived.Test.YtejepcnoflahkaaGreatDoorVSpec
namespace Go.Proofs.YtejepcnoflahkaaGreatDoor
open Go Go.Ab

theorem likeR_nil (p : List UInt8) : likeR [] p = p.all (· == 37) := by rw [likeR]
theorem likeR_end (c : UInt8) (cs : List UInt8) : likeR (c :: cs) [] = false := by rw [likeR]
theorem likeR_star (c : UInt8) (cs ps : List UInt8) : likeR (c :: cs) (37 :: ps) = (likeR (c :: cs) ps || likeR cs (37 :: ps)) := by
  rw [likeR, if_pos rfl]
theorem likeR_lit (c p : UInt8) (cs ps : List UInt8) (h : p ≠ 37) : likeR (c :: cs) (p :: ps) = ((p == 95 || small p == small c) && likeR cs ps) := by
  rw [likeR, if_neg h]
/-- a % may begin earlier -/
theorem star_more : ∀ (t s q : List UInt8), likeR s (37 :: q) = true → likeR (t ++ s) (37 :: q) = true
  | [], s, q, h => h
  | c :: t, s, q, h => by
    rw [List.cons_append, likeR_star, star_more t s q h, Bool.or_true]
theorem star_drop {s q : List UInt8} {i m : Nat} (h : i ≤ m) (hl : likeR (s.drop m) (37 :: q) = true) : likeR (s.drop i) (37 :: q) = true := by
  have e : s.drop i = (s.drop i).take (m - i) ++ s.drop m := by
    have := List.take_append_drop (m - i) (s.drop i)
    rw [List.drop_drop] at this
    rw [show i + (m - i) = m from by omega] at this
    exact this.symm
  rw [e]
  exact star_more _ _ _ hl
/-- what stands behind a % begins somewhere -/
theorem star_some : ∀ (s q : List UInt8), likeR s (37 :: q) = true → ∃ j, j ≤ s.length ∧ likeR (s.drop j) q = true
  | [], q, h => ⟨0, Nat.le_refl _, by
    rw [likeR_nil] at h
    rw [List.drop_zero, likeR_nil]
    simpa using h⟩
  | c :: cs, q, h => by
    rw [likeR_star, Bool.or_eq_true] at h
    rcases h with h | h
    · exact ⟨0, Nat.zero_le _, h⟩
    · obtain ⟨j, h1, h2⟩ := star_some cs q h
      exact ⟨j + 1, by simp; omega, by simpa using h2⟩
/-- signs that are no % stand each for one byte -/
theorem lits_some : ∀ (l s q : List UInt8), (∀ x ∈ l, x ≠ 37) → likeR s (l ++ q) = true → l.length ≤ s.length ∧ likeR (s.drop l.length) q = true
  | [], s, q, _, h => ⟨Nat.zero_le _, h⟩
  | x :: l, [], q, hl, h => by
    rw [likeR_nil] at h
    simp only [List.cons_append, List.all_cons, Bool.and_eq_true, beq_iff_eq] at h
    exact absurd h.1 (hl x (by simp))
  | x :: l, c :: s, q, hl, h => by
    rw [List.cons_append, likeR_lit _ _ _ _ (hl x (by simp)), Bool.and_eq_true] at h
    obtain ⟨h1, h2⟩ := lits_some l s q (fun y hy => hl y (by simp [hy])) h.2
    exact ⟨by simp; omega, by simpa using h2⟩

theorem drop_cons {l : List UInt8} {i : Nat} (h : i < l.length) : l.drop i = l.getD i 0 :: l.drop (i + 1) := by
  rw [List.drop_eq_getElem_cons h]
  simp [List.getD_eq_getElem?_getD, h]
/-- What the loop knows at a place. -/
structure LInv (s p : List UInt8) (i k : Nat) (bk : Int) (fr : Nat) : Prop where
  hi : i ≤ s.length
  hk : k ≤ p.length
  hf : fr ≤ i
  h : (bk = -1 ∧ likeR s p = likeR (s.drop i) (p.drop k)) ∨
    ∃ b : Nat, bk = b ∧ b ≤ k ∧ k - b = i - fr ∧ (∀ x ∈ (p.drop b).take (k - b), x ≠ 37) ∧ likeR s p = (likeR (s.drop i) (p.drop k) || likeR (s.drop (fr + 1)) (37 :: p.drop b))
section
variable {s p : List UInt8} {i k : Nat} {bk : Int} {fr : Nat}
theorem LInv.start : LInv s p 0 0 (-1) 0 := ⟨Nat.zero_le _, Nat.zero_le _, Nat.le_refl _, .inl ⟨rfl, rfl⟩⟩
theorem split_at (b : Nat) (h : b ≤ k) : p.drop b = (p.drop b).take (k - b) ++ p.drop k := by
  have := List.take_append_drop (k - b) (p.drop b)
  rw [List.drop_drop, show b + (k - b) = k from by omega] at this
  exact this.symm
theorem LInv.star (h : LInv s p i k bk fr) (h1 : i < s.length) (h2 : k < p.length) (h3 : p.getD k 0 = 37) : LInv s p i (k + 1) ((k + 1 : Nat) : Int) i := by
  refine ⟨h.hi, h2, Nat.le_refl _, .inr ⟨k + 1, rfl, Nat.le_refl _, by omega, by simp, ?_⟩⟩
  have e1 : likeR (s.drop i) (p.drop k) = (likeR (s.drop i) (p.drop (k + 1)) || likeR (s.drop (i + 1)) (37 :: p.drop (k + 1))) := by
    rw [drop_cons h2, h3, drop_cons h1, likeR_star]
  rcases h.h with ⟨_, hl⟩ | ⟨b, hb, hbk, hd, hlit, hl⟩
  · rw [hl, e1]
  · rw [hl, e1]
    cases ht : likeR (s.drop (fr + 1)) (37 :: p.drop b) with
    | false => rw [Bool.or_false]
    | true =>
      rw [Bool.or_true]
      refine Eq.symm ?_
      rw [← e1]
      obtain ⟨j, hj, hlj⟩ := star_some _ _ ht
      rw [split_at b hbk] at hlj
      obtain ⟨_, h6⟩ := lits_some _ _ _ hlit hlj
      have hlen : ((p.drop b).take (k - b)).length = k - b := by
        rw [List.length_take, List.length_drop]; omega
      rw [hlen, List.drop_drop, List.drop_drop] at h6
      have e2 : p.drop k = 37 :: p.drop (k + 1) := by rw [drop_cons h2, h3]
      rw [e2] at h6 ⊢
      exact star_drop (m := fr + 1 + j + (k - b)) (by omega) (by simpa [Nat.add_assoc, Nat.add_comm, Nat.add_left_comm] using h6)
theorem LInv.lit (h : LInv s p i k bk fr) (h1 : i < s.length) (h2 : k < p.length) (h3 : p.getD k 0 ≠ 37) (h4 : (p.getD k 0 == 95 || small (p.getD k 0) == small (s.getD i 0)) = true) : LInv s p (i + 1) (k + 1) bk fr := by
  have e1 : likeR (s.drop i) (p.drop k) = likeR (s.drop (i + 1)) (p.drop (k + 1)) := by
    rw [drop_cons h2, drop_cons h1, likeR_lit _ _ _ _ h3, h4, Bool.true_and]
  refine ⟨h1, h2, by have := h.hf; omega, ?_⟩
  rcases h.h with ⟨hb, hl⟩ | ⟨b, hb, hbk, hd, hlit, hl⟩
  · exact .inl ⟨hb, hl.trans e1⟩
  · refine .inr ⟨b, hb, by omega, by have := h.hf; omega, ?_, by rw [hl, e1]⟩
    intro x hx
    rw [show k + 1 - b = (k - b) + 1 from by omega, List.take_add_one, List.mem_append] at hx
    rcases hx with hx | hx
    · exact hlit x hx
    · rw [List.getElem?_drop, show b + (k - b) = k from by omega] at hx
      have : p[k]? = some (p.getD k 0) := by simp [List.getD_eq_getElem?_getD, h2]
      rw [this] at hx
      simp at hx
      rw [hx]; exact h3
/-- it does not go on here -/
def stuck (s p : List UInt8) (i k : Nat) : Prop := k = p.length ∨ (k < p.length ∧ p.getD k 0 ≠ 37 ∧ (p.getD k 0 == 95 || small (p.getD k 0) == small (s.getD i 0)) = false)
theorem stuck_false (h1 : i < s.length) (h : stuck s p i k) : likeR (s.drop i) (p.drop k) = false := by
  rcases h with rfl | ⟨h2, h3, h4⟩
  · rw [List.drop_length, drop_cons h1, likeR_end]
  · rw [drop_cons h2, drop_cons h1, likeR_lit _ _ _ _ h3, h4, Bool.false_and]
theorem LInv.back (h : LInv s p i k bk fr) (h1 : i < s.length) (hs : stuck s p i k) {b : Nat} (hb : bk = b) : LInv s p (fr + 1) b b (fr + 1) := by
  rcases h.h with ⟨hb', hl⟩ | ⟨b', hb', hbk, hd, hlit, hl⟩
  · omega
  · have : b' = b := by omega
    subst this
    have hf := h.hf
    refine ⟨by omega, by have := h.hk; omega, Nat.le_refl _, .inr ⟨b', rfl, Nat.le_refl _, by simp, by simp, ?_⟩⟩
    rw [hl, stuck_false h1 hs, Bool.false_or]
    rcases Nat.lt_or_ge (fr + 1) s.length with hlt | hge
    · rw [drop_cons hlt, likeR_star]
    · have e1 : s.drop (fr + 1) = [] := List.drop_eq_nil_of_le hge
      have e2 : s.drop (fr + 1 + 1) = [] := List.drop_eq_nil_of_le (by omega)
      rw [e1, e2, likeR_nil, likeR_nil]
      simp
theorem LInv.fail (h : LInv s p i k bk fr) (h1 : i < s.length) (hs : stuck s p i k) (hb : bk < 0) : likeR s p = false := by
  rcases h.h with ⟨hb', hl⟩ | ⟨b', hb', _⟩
  · rw [hl, stuck_false h1 hs]
  · omega
theorem LInv.done (h : LInv s p i k bk fr) (h1 : ¬ i < s.length) : likeR s p = (p.drop k).all (· == 37) := by
  have hi := h.hi
  have : i = s.length := by omega
  subst this
  have e : likeR (s.drop s.length) (p.drop k) = (p.drop k).all (· == 37) := by rw [List.drop_length, likeR_nil]
  rcases h.h with ⟨_, hl⟩ | ⟨b, hb, hbk, hd, hlit, hl⟩
  · rw [hl, e]
  · rw [hl, e]
    cases ht : likeR (s.drop (fr + 1)) (37 :: p.drop b) with
    | false => rw [Bool.or_false]
    | true =>
      obtain ⟨j, hj, hlj⟩ := star_some _ _ ht
      rw [split_at b hbk] at hlj
      obtain ⟨h5, h6⟩ := lits_some _ _ _ hlit hlj
      have hlen : ((p.drop b).take (k - b)).length = k - b := by
        have := h.hk
        rw [List.length_take, List.length_drop]; omega
      rw [hlen, List.length_drop, List.length_drop] at h5
      have hf := h.hf
      rcases Nat.lt_or_ge fr s.length with hlt | hge
      · exfalso; omega
      · have hkb : k = b := by omega
        subst hkb
        rw [List.drop_drop, List.drop_drop, List.drop_eq_nil_of_le (by omega), likeR_nil] at h6
        rw [h6, Bool.or_true]
end

/-! Bytes, as the code asks of them. -/
theorem byte_eq {x y : UInt8} : ((x.toNat : Int) == (y.toNat : Int)) = (x == y) := by
  rw [Bool.eq_iff_iff, beq_iff_eq, beq_iff_eq]
  constructor
  · intro h; exact UInt8.toNat_inj.1 (by omega)
  · intro h; rw [h]
theorem byte_37 {x : UInt8} : ((x.toNat : Int) == 37) = (x == 37) := byte_eq (y := 37)
theorem byte_95 {x : UInt8} : ((x.toNat : Int) == 95) = (x == 95) := byte_eq (y := 95)
theorem small_byte (x : UInt8) : smallI (x.toNat : Int) = ((small x).toNat : Int) := by
  have hx := x.toNat_lt
  unfold smallI small
  by_cases h : 65 ≤ x.toNat ∧ x.toNat ≤ 90
  · rw [if_pos h, if_pos (by omega)]
    have : (x + 32).toNat = x.toNat + 32 := by
      rw [UInt8.toNat_add]
      have : (32 : UInt8).toNat = 32 := rfl
      omega
    rw [this]
    simp [IntKind.wrap, IntKind.signed, IntKind.bits]
    omega
  · rw [if_neg h, if_neg (by omega)]
theorem small_eq {x y : UInt8} : (smallI (x.toNat : Int) == smallI (y.toNat : Int)) = (small x == small y) := by
  rw [small_byte, small_byte]; exact byte_eq
theorem dropW_nil {f : UInt8 → Bool} : ∀ {l : List UInt8}, l.dropWhile f = [] ↔ ∀ x ∈ l, f x = true
  | [] => by simp
  | c :: l => by
    rw [List.dropWhile_cons]
    by_cases h : f c = true
    · rw [if_pos h, dropW_nil]; simp [h]
    · rw [if_neg h]; simp [h]
theorem trimP_nil (s : List UInt8) : (trimP s == []) = s.all (· == 37) := by
  unfold trimP
  rw [Bool.eq_iff_iff, beq_iff_eq]
  constructor
  · intro h
    have h1 := dropW_nil.1 h
    have h2 : s.reverse.dropWhile (· == 37) = [] := by
      cases hd : s.reverse.dropWhile (· == 37) with
      | nil => rfl
      | cons c cs =>
        have hc := h1 c (by rw [hd]; simp)
        have := List.head?_dropWhile_not (· == (37 : UInt8)) s.reverse
        rw [hd] at this
        simp at this
        simp at hc
        exact absurd hc this
    rw [List.all_eq_true]
    intro x hx
    exact dropW_nil.1 h2 x (by simpa using hx)
  · intro h
    have : s.reverse.dropWhile (· == 37) = [] := dropW_nil.2 fun x hx => List.all_eq_true.1 h x (by simpa using hx)
    rw [this]; rfl

theorem mes_star {L P i k fr : Nat} (h : fr ≤ i) (hk : k < P) : (L - i) * (L + P + 1) + (L - i) + (P - (k + 1)) < (L - fr) * (L + P + 1) + (L - i) + (P - k) := by
  have : (L - i) * (L + P + 1) ≤ (L - fr) * (L + P + 1) := Nat.mul_le_mul_right _ (by omega)
  omega
theorem mes_lit {L P i k fr : Nat} (hi : i < L) (hk : k < P) : (L - fr) * (L + P + 1) + (L - (i + 1)) + (P - (k + 1)) < (L - fr) * (L + P + 1) + (L - i) + (P - k) := by omega
theorem mes_back {L P i k fr b : Nat} (hi : fr < L) : (L - (fr + 1)) * (L + P + 1) + (L - (fr + 1)) + (P - b) < (L - fr) * (L + P + 1) + (L - i) + (P - k) := by
  have : (L - fr) * (L + P + 1) = (L - (fr + 1)) * (L + P + 1) + (L + P + 1) := by
    rw [show L - fr = (L - (fr + 1)) + 1 from by omega, Nat.add_mul, Nat.one_mul]
  omega
theorem or_t1 {a b : Bool} (h : a = true) : (a || b) = true := by rw [h]; rfl
theorem or_t2 {a b : Bool} (h : b = true) : (a || b) = true := by rw [h]; exact Bool.or_true a
theorem or_ff {a b : Bool} (h : a = false) (k : b = false) : (a || b) = false := by rw [h, k]; rfl
end Go.Proofs.YtejepcnoflahkaaGreatDoor
