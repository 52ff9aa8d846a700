/- words: how long a token is. -/
import Derived.Test.YtejepcnoflahkaaDoorWLaw2
namespace Go.Proofs.YtejepcnoflahkaaDoor
open Go Go.Ab
set_option linter.unusedVariables false
set_option linter.unusedSimpArgs false
set_option maxRecDepth 100000

theorem quoS_le : ∀ (u o : List UInt8) (n : Nat), quoS u = some (o, n) → n ≤ u.length
  | [], o, n, h => by cases h
  | b :: l, o, n, h => by
    unfold quoS at h
    cases hb : b == 39 with
    | false =>
      rw [hb] at h
      obtain ⟨⟨o', n'⟩, h1, h2⟩ := Option.map_eq_some_iff.1 h
      have := quoS_le l o' n' h1
      obtain ⟨rfl, rfl⟩ := Prod.mk.inj h2
      simp only [List.length_cons]; omega
    | true =>
      rw [hb] at h
      match l, h with
      | [], h =>
        obtain ⟨rfl, rfl⟩ := Prod.mk.inj (Option.some.inj h)
        simp
      | c :: l', h =>
        cases hc : c == 39 with
        | false =>
          simp only [hc] at h
          obtain ⟨rfl, rfl⟩ := Prod.mk.inj (Option.some.inj h)
          simp
        | true =>
          simp only [hc] at h
          obtain ⟨⟨o', n'⟩, h1, h2⟩ := Option.map_eq_some_iff.1 h
          have := quoS_le l' o' n' h1
          obtain ⟨rfl, rfl⟩ := Prod.mk.inj h2
          simp only [List.length_cons]; omega
theorem bloS_le : ∀ (u o : List UInt8) (n : Nat), bloS u = some (o, n) → n ≤ u.length
  | [], o, n, h => by cases h
  | b :: l, o, n, h => by
    unfold bloS at h
    cases hb : b == 39 with
    | true =>
      rw [hb] at h
      obtain ⟨rfl, rfl⟩ := Prod.mk.inj (Option.some.inj h)
      simp
    | false =>
      rw [hb] at h
      match l, h with
      | [], h => cases h
      | c :: l', h =>
        simp only at h
        cases hx : halfS b with
        | none => rw [hx] at h; cases h
        | some x =>
          cases hy : halfS c with
          | none => rw [hx, hy] at h; cases h
          | some y =>
            rw [hx, hy] at h
            obtain ⟨⟨o', n'⟩, h1, h2⟩ := Option.map_eq_some_iff.1 h
            have := bloS_le l' o' n' h1
            obtain ⟨rfl, rfl⟩ := Prod.mk.inj h2
            simp only [List.length_cons]; omega
theorem first_le (s : List UInt8) : ∀ l : List (List UInt8), (firstS s l).l ≤ s.length
  | [] => by simp [firstS]
  | x :: l => by
    cases h : Lib.hasPrefix s x with
    | true => rw [fi_hit h]; exact hasPrefix_len h
    | false => rw [fi_miss h]; exact first_le s l
theorem found_le (s : List UInt8) : (foundS s).l ≤ s.length := by
  cases s with
  | nil => simp [foundS]
  | cons b l =>
    cases hb : isBlob (b :: l) with
    | true =>
      have h2 : 1 ≤ l.length := by
        cases l with
        | nil => cases hb
        | cons c l => simp
      cases h : bloS (l.drop 1) with
      | none => simp only [foundS, hb, h]; omega
      | some p =>
        obtain ⟨o, n⟩ := p
        have := bloS_le _ _ _ h
        rw [List.length_drop] at this
        simp only [foundS, hb, h, List.length_cons]; omega
    | false =>
      cases hq : b == 39 with
      | true =>
        cases h : quoS l with
        | none => simp only [foundS, hb, hq, h]; omega
        | some p =>
          obtain ⟨o, n⟩ := p
          have := quoS_le _ _ _ h
          simp only [foundS, hb, hq, h, List.length_cons]; omega
      | false =>
        cases hd : onB digC b with
        | true =>
          simp only [foundS, hb, hq, hd]
          unfold numS'
          split
          · exact runN_le _ _
          · exact Nat.zero_le _
        | false =>
          cases hl : onB letC b with
          | true =>
            simp only [foundS, hb, hq, hd, hl]
            exact runN_le _ _
          | false =>
            simp only [foundS, hb, hq, hd, hl]
            exact first_le _ _
end Go.Proofs.YtejepcnoflahkaaDoor
