/- words: what stands in front of a blank is told of its own bytes; texts and blobs as they are said; in plain Lean. -/
import Derived.Test.YtejepcnoflahkaaDoorWLaw3
namespace Go.Proofs.YtejepcnoflahkaaDoor
open Go Go.Ab
set_option linter.unusedVariables false
set_option linter.unusedSimpArgs false
set_option maxRecDepth 100000

theorem skip_f (b : UInt8) (l : List UInt8) : skipN false (b :: l) = if onB wsC b then skipN false l + 1 else if b == 45 && l.head? == some 45 then skipN true l + 1 else 0 := by
  simp only [skipN]
  cases onB wsC b
  · cases (b == 45 && l.head? == some 45) <;> rfl
  · rfl
theorem run_c (p : Int → Bool) (b : UInt8) (l : List UInt8) : runN p (b :: l) = if onB p b then runN p l + 1 else 0 := by
  simp only [runN]
  cases onB p b <;> simp
/-- a run stops where something else comes -/
theorem run_local (p : Int → Bool) (c : UInt8) (hc : onB p c = false) (r : List UInt8) : ∀ s : List UInt8, runN p (s.take (runN p s) ++ c :: r) = runN p s
  | [] => by simp [runN, hc]
  | b :: l => by
    rw [run_c]
    by_cases h : onB p b = true
    · rw [if_pos h, List.take_succ_cons, List.cons_append, run_c, if_pos h, run_local p c hc r l]
    · rw [if_neg h, List.take_zero, List.nil_append, run_c, if_neg (by rw [hc]; decide)]
theorem run_take (p : Int → Bool) (c : UInt8) (r : List UInt8) (s : List UInt8) : (s.take (runN p s) ++ c :: r).take (runN p s) = s.take (runN p s) := by
  have : (s.take (runN p s)).length = runN p s := by rw [List.length_take]; have := runN_le p s; omega
  rw [List.take_append_of_le_length (by omega), List.take_take, Nat.min_self]
theorem quo_local (c : UInt8) (hc : (c == 39) = false) (r : List UInt8) : ∀ (s o : List UInt8) (n : Nat), quoS s = some (o, n) → quoS (s.take n ++ c :: r) = some (o, n)
  | [], o, n, h => by cases h
  | b :: l, o, n, h => by
    unfold quoS at h
    cases hb : b == 39 with
    | false =>
      rw [hb] at h
      obtain ⟨⟨o', n'⟩, h1, h2⟩ := Option.map_eq_some_iff.1 h
      obtain ⟨rfl, rfl⟩ := Prod.mk.inj h2
      rw [List.take_succ_cons, List.cons_append]
      unfold quoS
      rw [hb, quo_local c hc r l o' n' h1]
      rfl
    | true =>
      rw [hb] at h
      match l, h with
      | [], h =>
        obtain ⟨rfl, rfl⟩ := Prod.mk.inj (Option.some.inj h)
        show quoS (b :: c :: r) = _
        simp only [quoS, hb, hc]
      | d :: l', h =>
        cases hd : d == 39 with
        | false =>
          simp only [hd] at h
          obtain ⟨rfl, rfl⟩ := Prod.mk.inj (Option.some.inj h)
          show quoS (b :: c :: r) = _
          simp only [quoS, hb, hc]
        | true =>
          simp only [hd] at h
          obtain ⟨⟨o', n'⟩, h1, h2⟩ := Option.map_eq_some_iff.1 h
          obtain ⟨rfl, rfl⟩ := Prod.mk.inj h2
          rw [List.take_succ_cons, List.take_succ_cons, List.cons_append, List.cons_append]
          unfold quoS
          simp only [hb, hd, quo_local c hc r l' o' n' h1]
          rfl
theorem blo_local (r : List UInt8) : ∀ (s o : List UInt8) (n : Nat), bloS s = some (o, n) → bloS (s.take n ++ r) = some (o, n)
  | [], o, n, h => by cases h
  | b :: l, o, n, h => by
    unfold bloS at h
    cases hb : b == 39 with
    | true =>
      rw [hb] at h
      obtain ⟨rfl, rfl⟩ := Prod.mk.inj (Option.some.inj h)
      show bloS (b :: r) = _
      unfold bloS
      rw [hb]
    | false =>
      rw [hb] at h
      match l, h with
      | [], h => cases h
      | c :: l', h =>
        simp only at h
        cases hx : halfS b with
        | none => rw [hx] at h; cases h
        | some x =>
          cases hy : halfS c with
          | none => rw [hx, hy] at h; cases h
          | some y =>
            rw [hx, hy] at h
            obtain ⟨⟨o', n'⟩, h1, h2⟩ := Option.map_eq_some_iff.1 h
            obtain ⟨rfl, rfl⟩ := Prod.mk.inj h2
            rw [List.take_succ_cons, List.take_succ_cons, List.cons_append, List.cons_append]
            unfold bloS
            simp only [hb, hx, hy, blo_local r l' o' n' h1]
            rfl
theorem sign_at (r : List UInt8) : ∀ x ∈ signsL, firstS (x ++ 32 :: r) signsL = ⟨6, x, 0, x.length⟩ := by
  intro x hx
  simp only [signsL, List.mem_cons, List.not_mem_nil, or_false] at hx
  rcases hx with rfl | rfl | rfl | rfl | rfl | rfl | rfl | rfl | rfl | rfl | rfl | rfl | rfl | rfl | rfl | rfl | rfl | rfl <;> rfl
theorem first_mem (s : List UInt8) : ∀ l : List (List UInt8), (firstS s l).l ≠ 0 → ∃ x ∈ l, firstS s l = ⟨6, x, 0, x.length⟩ ∧ Lib.hasPrefix s x = true
  | [], h => absurd rfl h
  | x :: l, h => by
    cases hx : Lib.hasPrefix s x with
    | true => exact ⟨x, by simp, fi_hit hx, hx⟩
    | false =>
      rw [fi_miss hx] at h ⊢
      obtain ⟨y, h1, h2⟩ := first_mem s l h
      exact ⟨y, List.mem_cons_of_mem _ h1, h2⟩
theorem isBlob_c (b c : UInt8) (l : List UInt8) : isBlob (b :: c :: l) = ((b == 120 || b == 88) && c == 39) := rfl
theorem isBlob_dig (b : UInt8) (l : List UInt8) (h : onB letC b = false) : isBlob (b :: l) = false := by
  cases l with
  | nil => rfl
  | cons c l =>
    rw [isBlob_c]
    have : (b == 120 || b == 88) = false := by
      rw [Bool.eq_false_iff]
      intro h2
      rw [Bool.or_eq_true, beq_iff_eq, beq_iff_eq] at h2
      rcases h2 with rfl | rfl <;> exact absurd h (by decide)
    rw [this, Bool.false_and]
theorem dig_let {b : UInt8} (h : onB digC b = true) : onB letC b = false := by
  rw [Bool.eq_false_iff]
  intro h2
  simp only [onB, digC, letC, Bool.or_eq_true, Bool.and_eq_true, decide_eq_true_eq, beq_iff_eq] at h h2
  omega
theorem dig_pos {s : List UInt8} {b : UInt8} {l : List UInt8} (e : s = b :: l) {p : Int → Bool} (h : onB p b = true) : 1 ≤ runN p s := by
  subst e; rw [run_c, if_pos h]; omega
theorem ex_of_l {P : Prop} [Decidable P] (x : Tk) (h : (if P then x else ⟨0, [], 0, 0⟩ : Tk).l ≠ 0) : P := by
  by_cases hp : P
  · exact hp
  · rw [if_neg hp] at h; exact absurd rfl h
theorem fs_b {b : UInt8} {l : List UInt8} (h : isBlob (b :: l) = true) : foundS (b :: l) = match bloS (l.drop 1) with
    | some (o, n) => ⟨5, o, 0, n + 2⟩
    | none => ⟨5, [], 0, 0⟩ := by simp only [foundS, h]; rfl
theorem fs_q {b : UInt8} {l : List UInt8} (h : isBlob (b :: l) = false) (h2 : (b == 39) = true) : foundS (b :: l) = match quoS l with
    | some (o, n) => ⟨4, o, 0, n + 1⟩
    | none => ⟨4, [], 0, 0⟩ := by simp only [foundS, h, h2]; rfl
theorem fs_d {b : UInt8} {l : List UInt8} (h : isBlob (b :: l) = false) (h2 : (b == 39) = false) (h3 : onB digC b = true) : foundS (b :: l) = numS' (b :: l) := by simp only [foundS, h, h2, h3]
theorem fs_l {b : UInt8} {l : List UInt8} (h : isBlob (b :: l) = false) (h2 : (b == 39) = false) (h3 : onB digC b = false) (h4 : onB letC b = true) : foundS (b :: l) = nameS (b :: l) := by simp only [foundS, h, h2, h3, h4]
theorem fs_s {b : UInt8} {l : List UInt8} (h : isBlob (b :: l) = false) (h2 : (b == 39) = false) (h3 : onB digC b = false) (h4 : onB letC b = false) : foundS (b :: l) = firstS (b :: l) signsL := by simp only [foundS, h, h2, h3, h4]
/-- what a text begins with is told of its own bytes, where a blank follows -/
theorem found_local (u : List UInt8) (h : (foundS u).l ≠ 0) (r : List UInt8) : foundS (u.take (foundS u).l ++ 32 :: r) = foundS u := by
  cases u with
  | nil => exact absurd rfl h
  | cons b l =>
    cases hb : isBlob (b :: l) with
    | true =>
      cases l with
      | nil => cases hb
      | cons c l =>
        rw [fs_b hb] at h ⊢
        rw [List.drop_succ_cons, List.drop_zero] at h ⊢
        cases hq : bloS l with
        | none => rw [hq] at h; exact absurd rfl h
        | some p =>
          obtain ⟨o, n⟩ := p
          show foundS (b :: c :: (l.take n ++ 32 :: r)) = ⟨5, o, 0, n + 2⟩
          rw [fs_b (by rw [isBlob_c] at hb ⊢; exact hb)]
          rw [List.drop_succ_cons, List.drop_zero, blo_local _ _ _ _ hq]
    | false =>
      cases hq : b == 39 with
      | true =>
        rw [fs_q hb hq] at h ⊢
        cases h2 : quoS l with
        | none => rw [h2] at h; exact absurd rfl h
        | some p =>
          obtain ⟨o, n⟩ := p
          show foundS (b :: (l.take n ++ 32 :: r)) = ⟨4, o, 0, n + 1⟩
          have hb' : onB letC b = false := by rw [beq_iff_eq] at hq; subst hq; decide
          rw [fs_q (isBlob_dig b _ hb') hq, quo_local 32 (by decide) r _ _ _ h2]
      | false =>
        cases hd : onB digC b with
        | true =>
          rw [fs_d hb hq hd] at h ⊢
          have hp := dig_pos (s := b :: l) rfl hd
          have hP : decN 0 ((b :: l).take (runN digC (b :: l))) ≤ 9223372036854775807 := ex_of_l _ h
          have e : numS' (b :: l) = ⟨1, [], decN 0 ((b :: l).take (runN digC (b :: l))), runN digC (b :: l)⟩ := by unfold numS'; rw [if_pos hP]
          rw [e]
          show foundS ((b :: l).take (runN digC (b :: l)) ++ 32 :: r) = _
          have e2 := run_local digC 32 (by decide) r (b :: l)
          have e3 := run_take digC 32 r (b :: l)
          generalize runN digC (b :: l) = n at *
          match n, hp with
          | n + 1, _ =>
            rw [List.take_succ_cons, List.cons_append] at *
            rw [fs_d (isBlob_dig b _ (dig_let hd)) hq hd]
            unfold numS'
            rw [e2, e3, if_pos hP]
        | false =>
          cases hl : onB letC b with
          | true =>
            rw [fs_l hb hq hd hl] at h ⊢
            have hn : onB namC b = true := by
              have h0 : letC (b.toNat : Int) = true := hl
              show (letC (b.toNat : Int) || digC (b.toNat : Int)) = true
              rw [h0, Bool.true_or]
            have hp := dig_pos (s := b :: l) rfl hn
            have e2 := run_local namC 32 (by decide) r (b :: l)
            have e3 := run_take namC 32 r (b :: l)
            have hB : isBlob ((b :: l).take (runN namC (b :: l)) ++ 32 :: r) = false := by
              cases l with
              | nil => rw [run_c, if_pos hn]; show isBlob (b :: 32 :: r) = false; rw [isBlob_c, show ((32 : UInt8) == 39) = false from by decide, Bool.and_false]
              | cons c l =>
                rw [run_c, if_pos hn, run_c]
                by_cases hc : onB namC c = true
                · rw [if_pos hc]; show isBlob (b :: c :: _) = false; rw [isBlob_c] at hb ⊢; exact hb
                · rw [if_neg hc]; show isBlob (b :: 32 :: r) = false; rw [isBlob_c, show ((32 : UInt8) == 39) = false from by decide, Bool.and_false]
            show foundS ((b :: l).take (runN namC (b :: l)) ++ 32 :: r) = _
            generalize hm : runN namC (b :: l) = n at *
            match n, hp with
            | n + 1, _ =>
              rw [List.take_succ_cons, List.cons_append] at *
              rw [fs_l hB hq hd hl]
              unfold nameS
              rw [e2, e3, hm, List.take_succ_cons]
          | false =>
            rw [fs_s hb hq hd hl] at h ⊢
            obtain ⟨x, hx, e, hpre⟩ := first_mem _ _ h
            rw [e]
            have e4 : (b :: l).take x.length = x := List.prefix_iff_eq_take.1 (List.isPrefixOf_iff_prefix.1 hpre) |>.symm
            show foundS ((b :: l).take x.length ++ 32 :: r) = _
            have e5 := sign_at r x hx
            rw [e4]
            cases x with
            | nil => rw [e] at h; exact absurd rfl h
            | cons c x =>
              have : c = b := by
                rw [List.length_cons, List.take_succ_cons] at e4
                exact (List.cons.inj e4).1.symm
              subst this
              rw [List.cons_append] at e5 ⊢
              rw [fs_s (isBlob_dig _ _ hl) hq hd hl]
              exact e5
/-- nothing is passed over ahead of it -/
theorem skip_local (u : List UInt8) (n : Nat) (hn : n ≠ 0) (hu : u ≠ []) (h : skipN false u = 0) (r : List UInt8) : skipN false (u.take n ++ 32 :: r) = 0 := by
  cases u with
  | nil => exact absurd rfl hu
  | cons b l =>
    cases n with
    | zero => exact absurd rfl hn
    | succ n =>
      rw [List.take_succ_cons, List.cons_append, skip_f]
      rw [skip_f] at h
      cases hw : onB wsC b with
      | true => rw [hw, if_pos rfl] at h; omega
      | false =>
        rw [hw, if_neg (by decide)] at h
        rw [if_neg (by decide)]
        rw [if_neg]
        intro h2
        rw [Bool.and_eq_true] at h2
        cases l with
        | nil =>
          rw [List.take_nil, List.nil_append] at h2
          exact absurd h2.2 (by simp)
        | cons c l =>
          cases n with
          | zero => rw [List.take_zero, List.nil_append] at h2; exact absurd h2.2 (by simp)
          | succ n =>
            rw [List.take_succ_cons] at h2
            have h3 : (b == 45 && (c :: l).head? == some 45) = true := by rw [Bool.and_eq_true]; exact h2
            rw [if_pos h3] at h
            rw [Bool.and_eq_true, beq_iff_eq] at h3
            simp only [skipN] at h
            omega
theorem skip_idem : ∀ t : List UInt8, skipN false (t.drop (skipN false t)) = 0 := by
  have h : ∀ (q : Bool) (t : List UInt8), skipN false (t.drop (skipN q t)) = 0 := by
    intro q t
    induction t generalizing q with
    | nil => cases q <;> rfl
    | cons b l ih =>
      cases q with
      | true =>
        rw [show skipN true (b :: l) = skipN (b != 10) l + 1 from rfl, List.drop_succ_cons]
        exact ih _
      | false =>
        rw [skip_f]
        split
        · rw [List.drop_succ_cons]; exact ih _
        · rename_i h1
          split
          · rw [List.drop_succ_cons]; exact ih _
          · rename_i h2
            rw [List.drop_zero, skip_f, if_neg h1, if_neg h2]
  exact h false
/-- what is put between -/
def sepS : List UInt8 := [32, 45, 45, 32, 120, 32, 39, 10, 9]
theorem skip_sep (u : List UInt8) : skipN false (sepS ++ u) = skipN false u + 9 := by rfl
/-- a piece of text that says a token, whatever stands behind a blank -/
def Good (p : List UInt8) (w : Wd) : Prop := p ≠ [] ∧ ∀ r, skipN false (p ++ 32 :: r) = 0 ∧ foundS (p ++ 32 :: r) = ⟨w.k, w.s, w.n, p.length⟩
theorem tok_good {p : List UInt8} {w : Wd} (g : Good p w) (r : List UInt8) (a : Nat) : tokS (p ++ 32 :: r) a = ⟨⟨w.k, w.s, w.n, (a : Nat), (a + p.length : Nat)⟩, 0, 0⟩ := by
  obtain ⟨h1, h2⟩ := g
  obtain ⟨h3, h4⟩ := h2 r
  have : p.length ≠ 0 := fun h => h1 (List.eq_nil_of_length_eq_zero h)
  unfold tokS
  rw [h3, if_neg (by simp), List.drop_zero, h4, if_neg this, Nat.add_zero]
theorem tok_good' {p : List UInt8} {w : Wd} (g : Good p w) (r : List UInt8) (a : Nat) : tokS (sepS ++ (p ++ 32 :: r)) a = ⟨⟨w.k, w.s, w.n, (a + 9 : Nat), (a + 9 + p.length : Nat)⟩, 0, 0⟩ := by
  obtain ⟨h1, h2⟩ := g
  obtain ⟨h3, h4⟩ := h2 r
  have : p.length ≠ 0 := fun h => h1 (List.eq_nil_of_length_eq_zero h)
  unfold tokS
  rw [skip_sep, h3, if_neg (by simp [sepS]), Nat.zero_add, show (sepS ++ (p ++ 32 :: r)).drop 9 = p ++ 32 :: r from rfl, h4, if_neg this]
/-- all pieces, each with what is put behind it -/
def joinB (L : List (List UInt8 × Wd)) : List UInt8 := L.flatMap fun x => x.1 ++ sepS
theorem joinB_app (L M : List (List UInt8 × Wd)) : joinB (L ++ M) = joinB L ++ joinB M := List.flatMap_append
theorem joinB_one (x : List UInt8 × Wd) : joinB [x] = x.1 ++ sepS := by simp [joinB]
/-- where the piece i's forerunner ends -/
def endB (L : List (List UInt8 × Wd)) (i : Nat) : Nat := (joinB (L.take i)).length - 9
theorem endB_zero (L : List (List UInt8 × Wd)) : endB L 0 = 0 := rfl
theorem joinB_snoc {L : List (List UInt8 × Wd)} {i : Nat} (h : i < L.length) : joinB (L.take (i + 1)) = joinB (L.take i) ++ (L[i].1 ++ sepS) := by
  rw [List.take_succ_eq_append_getElem h, joinB_app, joinB_one]
theorem endB_succ {L : List (List UInt8 × Wd)} {i : Nat} (h : i < L.length) : endB L (i + 1) = (joinB (L.take i)).length + L[i].1.length := by
  unfold endB
  rw [joinB_snoc h, List.length_append, List.length_append]
  show _ + (_ + 9) - 9 = _
  omega
/-- the rest of all behind the piece ahead of i -/
theorem drop_end (L : List (List UInt8 × Wd)) (i : Nat) (h : i ≤ L.length) : (joinB L).drop (endB L i) = (if i = 0 then [] else sepS) ++ joinB (L.drop i) := by
  cases i with
  | zero => simp [endB_zero]
  | succ i =>
    rw [if_neg (by omega), endB_succ h]
    have e : joinB L = (joinB (L.take i) ++ L[i].1) ++ (sepS ++ joinB (L.drop (i + 1))) := by
      have := List.take_append_drop (i + 1) L
      rw [← List.append_assoc, List.append_assoc (joinB _), ← joinB_snoc h, ← joinB_app, this]
    rw [e, List.drop_append_of_le_length (by rw [List.length_append]; omega), List.drop_of_length_le (by rw [List.length_append]; omega), List.nil_append]
theorem drop_cons {L : List (List UInt8 × Wd)} {i : Nat} (h : i < L.length) : joinB (L.drop i) = L[i].1 ++ 32 :: (sepS.tail ++ joinB (L.drop (i + 1))) := by
  rw [List.drop_eq_getElem_cons h]
  show (L[i].1 ++ sepS) ++ joinB _ = _
  rw [List.append_assoc]; rfl
theorem joinB_len (L : List (List UInt8 × Wd)) {i : Nat} (h : i < L.length) : (joinB (L.take i)).length + L[i].1.length ≤ (joinB L).length := by
  have : joinB L = joinB (L.take (i + 1)) ++ joinB (L.drop (i + 1)) := by rw [← joinB_app, List.take_append_drop]
  rw [this, List.length_append, joinB_snoc h, List.length_append, List.length_append]
  omega
theorem endB_le (L : List (List UInt8 × Wd)) (i : Nat) (h : i ≤ L.length) : endB L i ≤ (joinB L).length := by
  cases i with
  | zero => exact Nat.zero_le _
  | succ i => rw [endB_succ h]; exact joinB_len L h
theorem next_tokS {s : List UInt8} {k : Nat} (h : s.length ≤ 65536) (hk : k ≤ s.length) : nextS s k = tokS (s.drop k) k := by
  unfold nextS
  rw [if_neg (by omega), if_neg (by omega), Int.toNat_natCast]
/-- told again -/
theorem again {L : List (List UInt8 × Wd)} (hg : ∀ x ∈ L, Good x.1 x.2) (hl : (joinB L).length ≤ 65536) {i : Nat} (h : i < L.length) : ∃ a : Nat, nextS (joinB L) (endB L i : Nat) = ⟨⟨L[i].2.k, L[i].2.s, L[i].2.n, a, (endB L (i + 1) : Nat)⟩, 0, 0⟩ := by
  have g := hg L[i] (List.getElem_mem h)
  rw [next_tokS hl (endB_le L i (by omega)), drop_end L i (by omega), drop_cons h]
  by_cases h0 : i = 0
  · rw [if_pos h0, List.nil_append, tok_good g]
    refine ⟨endB L i, ?_⟩
    rw [endB_succ h]
    subst h0
    rfl
  · rw [if_neg h0, tok_good' g]
    refine ⟨endB L i + 9, ?_⟩
    have e : endB L (i + 1) = endB L i + 9 + L[i].1.length := by
      rw [endB_succ h]
      have : 9 ≤ (joinB (L.take i)).length := by
        cases i with
        | zero => exact absurd rfl h0
        | succ i => rw [joinB_snoc (by omega), List.length_append, List.length_append]; show 9 ≤ _ + (_ + 9); omega
      unfold endB
      omega
    rw [e]
theorem again_end {L : List (List UInt8 × Wd)} (hl : (joinB L).length ≤ 65536) : ∃ a : Int, nextS (joinB L) (endB L L.length : Nat) = ⟨⟨7, [], 0, a, a⟩, 0, 0⟩ := by
  rw [next_tokS hl (endB_le L _ (Nat.le_refl _)), drop_end L _ (Nat.le_refl _)]
  rw [List.drop_length]
  have : ∀ u : List UInt8, skipN false u = u.length → ∀ k : Nat, ∃ a : Int, tokS u k = ⟨⟨7, [], 0, a, a⟩, 0, 0⟩ := fun u h k => by
    unfold tokS
    rw [if_pos h]
    exact ⟨_, rfl⟩
  refine this _ ?_ _
  by_cases h0 : L.length = 0
  · rw [if_pos h0]; rfl
  · rw [if_neg h0]; rfl
/-- a token told is a piece that says it -/
theorem next_good {s : List UInt8} {a : Nat} (hl : s.length ≤ 2000) (ha : a ≤ s.length) (he : (nextS s a).e = 0) (hk : (nextS s a).w.k ≠ 7) :
    ∃ i j : Nat, (nextS s a).w.a = i ∧ (nextS s a).w.e = j ∧ a ≤ i ∧ i < j ∧ j ≤ s.length ∧ Good ((s.take j).drop i) (nextS s a).w ∧ (nextS s a).a = 0 := by
  rw [next_tokS (by omega) ha] at he hk ⊢
  generalize ht : s.drop a = t at *
  have htl : t.length = s.length - a := by rw [← ht, List.length_drop]
  have h1 := skipN_le false t
  have h2 := found_le (t.drop (skipN false t))
  have h2' := h2
  rw [List.length_drop] at h2
  unfold tokS at he hk ⊢
  split at he
  · rename_i h
    rw [if_pos h] at hk
    exact absurd rfl hk
  · rename_i h
    rw [if_neg h] at hk ⊢
    split at he
    · exact absurd he (by simp)
    · rename_i h3
      rw [if_neg h3]
      have hu : t.drop (skipN false t) ≠ [] := fun e => by
        have := congrArg List.length e
        rw [List.length_drop, List.length_nil] at this
        omega
      have hs0 : skipN false (t.drop (skipN false t)) = 0 := skip_idem t
      have eT : (s.take (a + skipN false t + (foundS (t.drop (skipN false t))).l)).drop (a + skipN false t) = (t.drop (skipN false t)).take (foundS (t.drop (skipN false t))).l := by
        rw [List.drop_take, ← List.drop_drop, ht]
        congr 1
        omega
      refine ⟨a + skipN false t, a + skipN false t + (foundS (t.drop (skipN false t))).l, rfl, rfl, by omega, by omega, by omega, ?_, rfl⟩
      rw [eT]
      generalize t.drop (skipN false t) = u at *
      have el : (u.take (foundS u).l).length = (foundS u).l := by rw [List.length_take]; omega
      refine ⟨fun e => ?_, fun r => ⟨skip_local u _ h3 hu hs0 r, ?_⟩⟩
      · rw [e] at el; exact h3 el.symm
      · rw [found_local u h3 r, el]
theorem quo_dup : ∀ s : List UInt8, quoS ((s.flatMap fun b => if b = 39 then [39, 39] else [b]) ++ [39]) = some (s, ((s.flatMap fun b => if b = 39 then [39, 39] else [b]) ++ [39]).length)
  | [] => rfl
  | b :: l => by
    rw [List.flatMap_cons]
    by_cases h : b = 39
    · rw [if_pos h]
      subst h
      simp only [List.cons_append, List.nil_append, List.append_assoc]
      unfold quoS
      simp only [beq_self_eq_true, quo_dup l]
      simp
    · rw [if_neg h]
      have : (b == 39) = false := by simpa using h
      simp only [List.cons_append, List.nil_append, List.append_assoc]
      unfold quoS
      simp only [this, quo_dup l]
      simp
theorem hexD_all : ∀ n : Fin 16, (hexD n.val == 39) = false ∧ halfS (hexD n.val) = some n.val := by decide +kernel
theorem blo_hex : ∀ s : List UInt8, bloS ((s.flatMap fun b : UInt8 => [hexD (b.toNat / 16), hexD (b.toNat % 16)]) ++ [39]) = some (s, ((s.flatMap fun b : UInt8 => [hexD (b.toNat / 16), hexD (b.toNat % 16)]) ++ [39]).length)
  | [] => rfl
  | b :: l => by
    have hb := b.toNat_lt
    have h1 := hexD_all ⟨b.toNat / 16, by omega⟩
    have h2 := hexD_all ⟨b.toNat % 16, by omega⟩
    simp only at h1 h2
    rw [List.flatMap_cons]
    simp only [List.cons_append, List.nil_append]
    unfold bloS
    simp only [h1.1, h1.2, h2.2, blo_hex l]
    have e : UInt8.ofNat (16 * (b.toNat / 16) + b.toNat % 16) = b := by
      rw [Nat.div_add_mod]
      exact UInt8.ofNat_toNat
    rw [Option.map_some, e]
    simp
theorem next_quote (s : List UInt8) (h : (quoteS s).length ≤ 65536) : nextS (quoteS s) 0 = ⟨⟨4, s, 0, 0, ((quoteS s).length : Nat)⟩, 0, 0⟩ := by
  have e : quoteS s = 39 :: ((s.flatMap fun b => if b = 39 then [39, 39] else [b]) ++ [39]) := rfl
  have := next_tokS (k := 0) h (Nat.zero_le _)
  rw [show ((0 : Nat) : Int) = 0 from rfl, List.drop_zero] at this
  rw [this, e]
  unfold tokS
  rw [show skipN false (39 :: ((s.flatMap fun b : UInt8 => if b = 39 then [39, 39] else [b]) ++ [39])) = 0 from by rw [skip_f, if_neg (by decide), if_neg (by simp)]]
  rw [if_neg (by simp), List.drop_zero]
  rw [fs_q (isBlob_dig _ _ (by decide)) (by decide), quo_dup s]
  simp
theorem next_hex (s : List UInt8) (h : (hexW s).length ≤ 65536) : nextS (hexW s) 0 = ⟨⟨5, s, 0, 0, ((hexW s).length : Nat)⟩, 0, 0⟩ := by
  have e : hexW s = 120 :: 39 :: ((s.flatMap fun b : UInt8 => [hexD (b.toNat / 16), hexD (b.toNat % 16)]) ++ [39]) := rfl
  have := next_tokS (k := 0) h (Nat.zero_le _)
  rw [show ((0 : Nat) : Int) = 0 from rfl, List.drop_zero] at this
  rw [this, e]
  unfold tokS
  rw [show skipN false (120 :: 39 :: ((s.flatMap fun b : UInt8 => [hexD (b.toNat / 16), hexD (b.toNat % 16)]) ++ [39])) = 0 from by rw [skip_f, if_neg (by decide), if_neg (by simp)]]
  rw [if_neg (by simp), List.drop_zero]
  rw [fs_b (by rfl), List.drop_succ_cons, List.drop_zero, blo_hex s]
  simp
  omega
theorem quote_len (s : List UInt8) : (quoteS s).length ≤ 2 * s.length + 2 := by
  have : ∀ s : List UInt8, (s.flatMap fun b => if b = 39 then [39, 39] else [b] : List UInt8).length ≤ 2 * s.length := by
    intro s
    induction s with
    | nil => simp
    | cons b l ih =>
      rw [List.flatMap_cons, List.length_append, List.length_cons]
      split <;> simp only [List.length_cons, List.length_nil] <;> omega
  have := this s
  unfold quoteS
  simp only [List.length_append, List.length_cons, List.length_nil]
  omega
theorem hexW_len (s : List UInt8) : (hexW s).length = 2 * s.length + 3 := by
  have : ∀ s : List UInt8, (s.flatMap fun b : UInt8 => [hexD (b.toNat / 16), hexD (b.toNat % 16)]).length = 2 * s.length := by
    intro s
    induction s with
    | nil => simp
    | cons b l ih => rw [List.flatMap_cons, List.length_append, ih, List.length_cons]; simp only [List.length_cons, List.length_nil]; omega
  have := this s
  unfold hexW
  simp only [List.length_append, List.length_cons, List.length_nil]
  omega
end Go.Proofs.YtejepcnoflahkaaDoor
