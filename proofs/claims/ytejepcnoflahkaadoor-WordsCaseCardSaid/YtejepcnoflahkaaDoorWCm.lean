/- WordsCase: great letters in names and keys say what small ones say: the walk. -/
import Derived.Test.YtejepcnoflahkaaDoorWBack0
import Derived.Test.YtejepcnoflahkaaDoorWHex
section
namespace Go.Proofs.YtejepcnoflahkaaDoor
open Go Go.Ab
set_option linter.unusedVariables false
set_option linter.unusedSimpArgs false
set_option maxRecDepth 100000

/-- a byte, or the great letter of it where it may be turned -/
def turnB (q : Bool) (b c : UInt8) : Prop := c = b ∨ (q = false ∧ 97 ≤ b.toNat ∧ b.toNat ≤ 122 ∧ c = b - 32)
@[reducible] def flipQ (q : Bool) (b : UInt8) : Bool := if b = 39 then !q else q
/-- a text, and the same with some letters outside of quotes turned -/
def Rel : Bool → List UInt8 → List UInt8 → Prop
  | _, [], [] => True
  | q, b :: l, c :: m => turnB (flipQ q b) b c ∧ Rel (flipQ q b) l m
  | _, _, _ => False
def NoUp (u : List UInt8) : Prop := ∀ b ∈ u, ¬ (65 ≤ b.toNat ∧ b.toNat ≤ 90)
def NoRem (u : List UInt8) : Prop := ∀ a r, u ≠ a ++ 45 :: 45 :: r
theorem Rel.len : ∀ {q : Bool} {u v : List UInt8}, Rel q u v → u.length = v.length
  | _, [], [], _ => rfl
  | _, b :: l, c :: m, h => by rw [List.length_cons, List.length_cons, Rel.len h.2]
  | _, [], c :: m, h => h.elim
  | _, b :: l, [], h => h.elim
theorem NoUp.drop {u : List UInt8} (h : NoUp u) (k : Nat) : NoUp (u.drop k) := fun b hb => h b (List.mem_of_mem_drop hb)
theorem NoRem.drop {u : List UInt8} (h : NoRem u) (k : Nat) : NoRem (u.drop k) := fun a r e => h (u.take k ++ a) r (by rw [List.append_assoc, ← e, List.take_append_drop])
theorem NoUp.tail {b : UInt8} {u : List UInt8} (h : NoUp (b :: u)) : NoUp u := h.drop 1
theorem NoRem.tail {b : UInt8} {u : List UInt8} (h : NoRem (b :: u)) : NoRem u := h.drop 1
structure Same (b c : UInt8) : Prop where
  dig : onB digC c = onB digC b
  lt : onB letC c = onB letC b
  nam : onB namC c = onB namC b
  ws : onB wsC c = onB wsC b
  q : (c == 39) = (b == 39)
  d : (c == 45) = (b == 45)
  x : (c == 120 || c == 88) = (b == 120 || b == 88)
  s : small c = small b
theorem same26 : ∀ n : Fin 26, (onB digC (UInt8.ofNat (65 + n.val)) = onB digC (UInt8.ofNat (97 + n.val)) ∧ onB letC (UInt8.ofNat (65 + n.val)) = onB letC (UInt8.ofNat (97 + n.val)) ∧ onB namC (UInt8.ofNat (65 + n.val)) = onB namC (UInt8.ofNat (97 + n.val)) ∧ onB wsC (UInt8.ofNat (65 + n.val)) = onB wsC (UInt8.ofNat (97 + n.val))) ∧ ((UInt8.ofNat (65 + n.val)) == 39) = ((UInt8.ofNat (97 + n.val)) == 39) ∧ ((UInt8.ofNat (65 + n.val)) == 45) = ((UInt8.ofNat (97 + n.val)) == 45) ∧ ((UInt8.ofNat (65 + n.val)) == 120 || (UInt8.ofNat (65 + n.val)) == 88) = ((UInt8.ofNat (97 + n.val)) == 120 || (UInt8.ofNat (97 + n.val)) == 88) ∧ small (UInt8.ofNat (65 + n.val)) = small (UInt8.ofNat (97 + n.val)) := by decide +kernel
theorem let_is {b : UInt8} (h1 : 97 ≤ b.toNat) (h2 : b.toNat ≤ 122) : ∃ n : Fin 26, b = UInt8.ofNat (97 + n.val) ∧ b - 32 = UInt8.ofNat (65 + n.val) := by
  refine ⟨⟨b.toNat - 97, by omega⟩, ?_, ?_⟩
  · show b = UInt8.ofNat (97 + (b.toNat - 97))
    rw [show 97 + (b.toNat - 97) = b.toNat from by omega, UInt8.ofNat_toNat]
  · show b - 32 = UInt8.ofNat (65 + (b.toNat - 97))
    refine UInt8.toNat_inj.1 ?_
    rw [UInt8.toNat_sub, UInt8.toNat_ofNat']
    show (2 ^ 8 - 32 + b.toNat) % 2 ^ 8 = _
    omega
theorem turnB.same {q : Bool} {b c : UInt8} (h : turnB q b c) : Same b c := by
  rcases h with rfl | ⟨_, h1, h2, rfl⟩
  · exact ⟨rfl, rfl, rfl, rfl, rfl, rfl, rfl, rfl⟩
  · obtain ⟨n, e1, e2⟩ := let_is h1 h2
    rw [e2, e1]
    obtain ⟨⟨a1, a2, a3, a4⟩, a5, a6, a7, a8⟩ := same26 n
    exact ⟨a1, a2, a3, a4, a5, a6, a7, a8⟩
theorem flip_ne {q : Bool} {b : UInt8} (h : b ≠ 39) : flipQ q b = q := if_neg h
theorem flip_q {q : Bool} : flipQ q 39 = !q := rfl
/-- within quotes nothing is turned, up to the next quote -/
theorem turn_in {b c : UInt8} (h : turnB (flipQ true b) b c) : c = b := by
  rcases h with h | ⟨hq, h1, h2, _⟩
  · exact h
  · by_cases hb : b = 39
    · subst hb; exact absurd h1 (by decide)
    · rw [flip_ne hb] at hq; exact absurd hq (by decide)
theorem rel_drop : ∀ (n : Nat) {u v : List UInt8}, Rel false u v → (∀ b ∈ u.take n, b ≠ 39) → Rel false (u.drop n) (v.drop n)
  | 0, u, v, h, _ => by rwa [List.drop_zero, List.drop_zero]
  | n + 1, [], [], _, _ => trivial
  | n + 1, [], c :: m, h, _ => h.elim
  | n + 1, b :: l, [], h, _ => h.elim
  | n + 1, b :: l, c :: m, h, hq => by
    rw [List.drop_succ_cons, List.drop_succ_cons]
    have hb : b ≠ 39 := hq b (by simp)
    have h2 := h.2
    rw [flip_ne hb] at h2
    exact rel_drop n h2 fun x hx => hq x (by rw [List.take_succ_cons]; exact List.mem_cons_of_mem _ hx)
theorem rel_run {p : Int → Bool} (hp : ∀ b c, turnB false b c → onB p c = onB p b) (h39 : onB p 39 = false) : ∀ {u v : List UInt8}, Rel false u v → runN p v = runN p u ∧ lowS (v.take (runN p u)) = lowS (u.take (runN p u)) ∧ Rel false (u.drop (runN p u)) (v.drop (runN p u))
  | [], [], _ => ⟨rfl, rfl, trivial⟩
  | [], c :: m, h => h.elim
  | b :: l, [], h => h.elim
  | b :: l, c :: m, h => by
    rw [run_c, run_c]
    by_cases hb : onB p b = true
    · have h9 : b ≠ 39 := fun e => by subst e; rw [h39] at hb; cases hb
      have h1 := h.1
      have h2 := h.2
      rw [flip_ne h9] at h1 h2
      obtain ⟨e1, e2, e3⟩ := rel_run hp h39 h2
      rw [if_pos hb, if_pos ((hp b c h1).trans hb), e1, List.drop_succ_cons, List.drop_succ_cons, List.take_succ_cons, List.take_succ_cons]
      refine ⟨rfl, ?_, e3⟩
      unfold lowS at e2 ⊢
      rw [List.map_cons, List.map_cons, e2, h1.same.s]
    · have hc : ¬ onB p c = true := by rw [hp' h.1]; exact hb
      rw [if_neg hb, if_neg hc]
      exact ⟨rfl, rfl, h⟩
where
  hp' {q : Bool} {b c : UInt8} (h : turnB q b c) : onB p c = onB p b := by
    rcases h with h | h
    · rw [h]
    · exact hp b c (.inr ⟨rfl, h.2⟩)
theorem rel_digs : ∀ {u v : List UInt8}, Rel false u v → v.take (runN digC u) = u.take (runN digC u)
  | [], [], _ => rfl
  | [], c :: m, h => h.elim
  | b :: l, [], h => h.elim
  | b :: l, c :: m, h => by
    rw [run_c]
    by_cases hb : onB digC b = true
    · have hb' : isDg b := digC_is hb
      unfold isDg at hb'
      have e : c = b := by
        rcases h.1 with e | ⟨_, h1, _⟩
        · exact e
        · omega
      have h9 : b ≠ 39 := fun e => by subst e; exact absurd hb (by decide)
      have h2 := h.2
      rw [flip_ne h9] at h2
      rw [if_pos hb, List.take_succ_cons, List.take_succ_cons, e, rel_digs h2]
    · rw [if_neg hb]; rfl
theorem rel_quo : ∀ {u v : List UInt8}, Rel true u v → quoS v = quoS u ∧ ∀ o n, quoS u = some (o, n) → Rel false (u.drop n) (v.drop n)
  | [], [], _ => ⟨rfl, fun _ _ h => by cases h⟩
  | [], c :: m, h => h.elim
  | b :: l, [], h => h.elim
  | b :: l, c :: m, h => by
    obtain rfl := turn_in h.1
    have h2 := h.2
    unfold quoS
    by_cases hb : c = 39
    · subst hb
      rw [flip_q] at h2
      match l, m, h2 with
      | [], [], _ => exact ⟨rfl, fun o n e => by obtain ⟨rfl, rfl⟩ := Prod.mk.inj (Option.some.inj e); exact trivial⟩
      | [], _ :: _, h2 => exact h2.elim
      | _ :: _, [], h2 => exact h2.elim
      | x :: l, y :: m, h2 =>
        have hs := h2.1.same.q
        simp only [beq_self_eq_true]
        cases hx : x == 39 with
        | true =>
          have hx' : x = 39 := by simpa using hx
          have hy : y = 39 := by rw [hx] at hs; simpa using hs
          subst hx' hy
          have h3 := h2.2
          obtain ⟨e1, e2⟩ := rel_quo (u := l) (v := m) h3
          simp only [beq_self_eq_true, e1]
          refine ⟨trivial, fun o n e => ?_⟩
          obtain ⟨⟨o', n'⟩, e3, e4⟩ := Option.map_eq_some_iff.1 e
          obtain ⟨rfl, rfl⟩ := Prod.mk.inj e4
          exact e2 o' n' e3
        | false =>
          rw [hx] at hs
          simp only [hs]
          exact ⟨trivial, fun o n e => by obtain ⟨rfl, rfl⟩ := Prod.mk.inj (Option.some.inj e); exact h2⟩
    · rw [flip_ne hb] at h2
      have hb' : (c == 39) = false := by simpa using hb
      obtain ⟨e1, e2⟩ := rel_quo h2
      simp only [hb', e1]
      refine ⟨trivial, fun o n e => ?_⟩
      obtain ⟨⟨o', n'⟩, e3, e4⟩ := Option.map_eq_some_iff.1 e
      obtain ⟨rfl, rfl⟩ := Prod.mk.inj e4
      exact e2 o' n' e3
theorem half39 : halfS 39 = none := by decide
theorem rel_blo : ∀ {u v : List UInt8}, Rel true u v → bloS v = bloS u ∧ ∀ o n, bloS u = some (o, n) → Rel false (u.drop n) (v.drop n)
  | [], [], _ => ⟨rfl, fun _ _ h => by cases h⟩
  | [], c :: m, h => h.elim
  | b :: l, [], h => h.elim
  | b :: l, c :: m, h => by
    obtain rfl := turn_in h.1
    have h2 := h.2
    unfold bloS
    by_cases hb : c = 39
    · subst hb
      rw [flip_q] at h2
      simp only [beq_self_eq_true]
      exact ⟨trivial, fun o n e => by obtain ⟨rfl, rfl⟩ := Prod.mk.inj (Option.some.inj e); exact h2⟩
    · rw [flip_ne hb] at h2
      have hb' : (c == 39) = false := by simpa using hb
      simp only [hb']
      match l, m, h2 with
      | [], [], _ => exact ⟨rfl, fun o n e => by cases e⟩
      | [], _ :: _, h2 => exact h2.elim
      | _ :: _, [], h2 => exact h2.elim
      | x :: l, y :: m, h2 =>
        obtain rfl := turn_in h2.1
        by_cases hy : y = 39
        · subst hy
          simp only [half39]
          exact ⟨by cases halfS c <;> rfl, fun o n e => by cases hc : halfS c <;> rw [hc] at e <;> cases e⟩
        · have h3 := h2.2
          rw [flip_ne hy] at h3
          obtain ⟨e1, e2⟩ := rel_blo (u := l) (v := m) h3
          simp only [e1]
          refine ⟨trivial, fun o n e => ?_⟩
          cases hx : halfS c with
          | none => rw [hx] at e; cases e
          | some a =>
            cases hz : halfS y with
            | none => rw [hx, hz] at e; cases e
            | some d =>
              rw [hx, hz] at e
              obtain ⟨⟨o', n'⟩, e3, e4⟩ := Option.map_eq_some_iff.1 e
              obtain ⟨rfl, rfl⟩ := Prod.mk.inj e4
              exact e2 o' n' e3
/-- signs have no letters, and no quotes -/
theorem signs_plain : ∀ x ∈ signsL, ∀ b ∈ x, onB letC b = false ∧ b ≠ 39 := by decide +kernel
theorem rel_pre : ∀ {x u v : List UInt8}, (∀ b ∈ x, onB letC b = false ∧ b ≠ 39) → Rel false u v → NoUp u → Lib.hasPrefix v x = Lib.hasPrefix u x
  | [], u, v, _, _, _ => by simp [Lib.hasPrefix]
  | a :: x, [], [], _, _, _ => rfl
  | a :: x, [], c :: m, _, h, _ => h.elim
  | a :: x, b :: l, [], _, h, _ => h.elim
  | a :: x, b :: l, c :: m, hx, h, hu => by
    show (a == c && Lib.hasPrefix m x) = (a == b && Lib.hasPrefix l x)
    have ha := hx a (by simp)
    by_cases hb : b = a
    · have hc : c = b := by
        rcases h.1 with e | ⟨_, h1, h2, _⟩
        · exact e
        · exfalso
          have h3 : onB letC b = true := by
            show letC (b.toNat : Int) = true
            unfold letC
            rw [decide_eq_true (show ((b.toNat : Int)) ≥ 97 by omega), decide_eq_true (show ((b.toNat : Int)) ≤ 122 by omega)]; rfl
          rw [hb, ha.1] at h3
          cases h3
      have h2 := h.2
      rw [flip_ne (by rw [hb]; exact ha.2)] at h2
      rw [hc, rel_pre (fun y hy => hx y (List.mem_cons_of_mem _ hy)) h2 hu.tail]
    · have hc : c ≠ a := by
        intro e
        rcases h.1 with e2 | ⟨_, h1, h2, e2⟩
        · exact hb (e2.symm.trans e)
        · have h3 : onB letC c = true := by
            have h4 := (turnB.same (q := false) (.inr ⟨rfl, h1, h2, e2⟩)).lt
            rw [h4]
            show letC (b.toNat : Int) = true
            unfold letC
            rw [decide_eq_true (show ((b.toNat : Int)) ≥ 97 by omega), decide_eq_true (show ((b.toNat : Int)) ≤ 122 by omega)]; rfl
          rw [e, ha.1] at h3
          cases h3
      rw [show (a == c) = false from by simpa using fun e => hc e.symm, show (a == b) = false from by simpa using fun e => hb e.symm, Bool.false_and, Bool.false_and]
theorem rel_first {u v : List UInt8} (h : Rel false u v) (hu : NoUp u) : ∀ (l : List (List UInt8)), (∀ x ∈ l, ∀ b ∈ x, onB letC b = false ∧ b ≠ 39) → firstS v l = firstS u l ∧ Rel false (u.drop (firstS u l).l) (v.drop (firstS u l).l)
  | [], _ => ⟨rfl, h⟩
  | x :: l, hl => by
    have e := rel_pre (hl x (by simp)) h hu
    cases hx : Lib.hasPrefix u x with
    | true =>
      rw [hx] at e
      rw [fi_hit hx, fi_hit e]
      refine ⟨rfl, rel_drop _ h fun b hb => ?_⟩
      have e4 : u.take x.length = x := List.prefix_iff_eq_take.1 (List.isPrefixOf_iff_prefix.1 hx) |>.symm
      rw [e4] at hb
      exact (hl x (by simp) b hb).2
    | false =>
      rw [hx] at e
      rw [fi_miss hx, fi_miss e]
      exact rel_first h hu l fun y hy => hl y (List.mem_cons_of_mem _ hy)
theorem rel_isBlob : ∀ {u v : List UInt8}, Rel false u v → isBlob v = isBlob u
  | [], [], _ => rfl
  | [], c :: m, h => h.elim
  | b :: l, [], h => h.elim
  | [b], [c], h => rfl
  | [b], c :: d :: m, h => h.2.elim
  | b :: a :: l, [c], h => h.2.elim
  | b :: a :: l, c :: d :: m, h => by
    rw [isBlob_c, isBlob_c, h.1.same.x, h.2.1.same.q]
theorem rel_found {u v : List UInt8} (h : Rel false u v) (hu : NoUp u) : foundS v = foundS u ∧ Rel false (u.drop (foundS u).l) (v.drop (foundS u).l) := by
  match u, v, h with
  | [], [], _ => exact ⟨rfl, trivial⟩
  | [], c :: m, h => exact h.elim
  | b :: l, [], h => exact h.elim
  | b :: l, c :: m, h =>
    have hs := h.1.same
    have hB := rel_isBlob h
    cases hb : isBlob (b :: l) with
    | true =>
      rw [hb] at hB
      match l, m, h with
      | [], _, _ => cases hb
      | a :: l, [], h => exact h.2.elim
      | a :: l, d :: m, h =>
        rw [fs_b hb, fs_b hB, List.drop_succ_cons, List.drop_succ_cons, List.drop_zero, List.drop_zero]
        rw [isBlob_c, Bool.and_eq_true] at hb
        have ha : a = 39 := by simpa using hb.2
        have hb9 : b ≠ 39 := fun e => by subst e; exact absurd hb.1 (by decide)
        have h2 := h.2.2
        rw [flip_ne hb9, ha, flip_q] at h2
        obtain ⟨e1, e2⟩ := rel_blo h2
        rw [e1]
        refine ⟨rfl, ?_⟩
        cases hq : bloS l with
        | none => exact h
        | some p => exact e2 p.1 p.2 hq
    | false =>
      rw [hb] at hB
      cases hq : b == 39 with
      | true =>
        have hc : (c == 39) = true := hs.q.trans hq
        rw [fs_q hb hq, fs_q hB hc]
        have hb9 : b = 39 := by simpa using hq
        have h2 := h.2
        rw [hb9, flip_q] at h2
        obtain ⟨e1, e2⟩ := rel_quo h2
        rw [e1]
        refine ⟨rfl, ?_⟩
        cases h3 : quoS l with
        | none => exact h
        | some p => exact e2 p.1 p.2 h3
      | false =>
        have hc : (c == 39) = false := hs.q.trans hq
        cases hd : onB digC b with
        | true =>
          rw [fs_d hb hq hd, fs_d hB hc (hs.dig.trans hd)]
          obtain ⟨e1, _, e3⟩ := rel_run (p := digC) (fun b c h => h.same.dig) (by decide) h
          have e4 := rel_digs h
          unfold numS'
          rw [e1, e4]
          refine ⟨rfl, ?_⟩
          split
          · exact e3
          · exact h
        | false =>
          have hd' := hs.dig.trans hd
          cases hl : onB letC b with
          | true =>
            rw [fs_l hb hq hd hl, fs_l hB hc hd' (hs.lt.trans hl)]
            obtain ⟨e1, e2, e3⟩ := rel_run (p := namC) (fun b c h => h.same.nam) (by decide) h
            unfold nameS
            rw [e1, e2]
            exact ⟨rfl, e3⟩
          | false =>
            rw [fs_s hb hq hd hl, fs_s hB hc hd' (hs.lt.trans hl)]
            exact rel_first h hu _ signs_plain
theorem rel_skip : ∀ {u v : List UInt8}, Rel false u v → NoRem u → skipN false v = skipN false u ∧ Rel false (u.drop (skipN false u)) (v.drop (skipN false u))
  | [], [], _, _ => ⟨rfl, trivial⟩
  | [], c :: m, h, _ => h.elim
  | b :: l, [], h, _ => h.elim
  | b :: l, c :: m, h, hr => by
    have hs := h.1.same
    have hD : (c == 45 && m.head? == some 45) = (b == 45 && l.head? == some 45) := by
      rw [hs.d]
      match l, m, h.2 with
      | [], [], _ => rfl
      | [], _ :: _, h => exact h.elim
      | _ :: _, [], h => exact h.elim
      | x :: l, y :: m, h => 
        have := h.1.same.d
        show (b == 45 && (some y == some 45)) = (b == 45 && (some x == some 45))
        rw [show (some y == some (45 : UInt8)) = (y == 45) from rfl, show (some x == some (45 : UInt8)) = (x == 45) from rfl, this]
    rw [skip_f, skip_f, hs.ws, hD]
    by_cases hw : onB wsC b = true
    · have h9 : b ≠ 39 := fun e => by subst e; exact absurd hw (by decide)
      have h2 := h.2
      rw [flip_ne h9] at h2
      obtain ⟨e1, e2⟩ := rel_skip h2 hr.tail
      rw [if_pos hw, if_pos hw, e1]
      exact ⟨rfl, e2⟩
    · rw [if_neg hw, if_neg hw]
      have : ¬ (b == 45 && l.head? == some 45) = true := fun h2 => by
        rw [Bool.and_eq_true, beq_iff_eq] at h2
        match l, h2 with
        | [], h2 => exact absurd h2.2 (by decide)
        | x :: l, h2 =>
          have hx : x = 45 := by simpa using h2.2
          exact hr [] l (by rw [h2.1, hx]; rfl)
      rw [if_neg this, if_neg this]
      exact ⟨rfl, h⟩
/-- tokens are the same, and what stands behind them -/
theorem rel_tok {u v : List UInt8} (h : Rel false u v) (hu : NoUp u) (hr : NoRem u) (a : Nat) : tokS v a = tokS u a ∧ Rel false (u.drop (skipN false u + (foundS (u.drop (skipN false u))).l)) (v.drop (skipN false u + (foundS (u.drop (skipN false u))).l)) := by
  obtain ⟨e1, e2⟩ := rel_skip h hr
  obtain ⟨e3, e4⟩ := rel_found e2 (hu.drop _)
  unfold tokS
  rw [e1, e3, ← h.len]
  refine ⟨rfl, ?_⟩
  rw [List.drop_drop, List.drop_drop] at e4
  exact e4
/-- within quotes, behind the first i bytes? -/
def qAt (u : List UInt8) : Nat → Bool
  | 0 => false
  | i + 1 => flipQ (qAt u i) (u.getD i 0)
/-- is the byte i turned? -/
def hitAt (u : List UInt8) (g : List Bool) (i : Nat) : Bool := !qAt u (i + 1) && (decide (97 ≤ (u.getD i 0).toNat ∧ (u.getD i 0).toNat ≤ 122) && g.getD i false)
def outAt (u : List UInt8) (g : List Bool) (i : Nat) : UInt8 := if hitAt u g i then u.getD i 0 - 32 else u.getD i 0
def turnW (u : List UInt8) (g : List Bool) : List UInt8 := (List.range u.length).map (outAt u g)
theorem turnW_len (u : List UInt8) (g : List Bool) : (turnW u g).length = u.length := by simp [turnW]
theorem turnW_rel (u : List UInt8) (g : List Bool) : ∀ (n i : Nat), i + n = u.length → Rel (qAt u i) (u.drop i) ((turnW u g).drop i)
  | 0, i, h => by
    rw [List.drop_of_length_le (by omega), List.drop_of_length_le (by rw [turnW_len]; omega)]
    unfold Rel
    trivial
  | n + 1, i, h => by
    have h1 : i < u.length := by omega
    have h2 : i < (turnW u g).length := by rw [turnW_len]; omega
    rw [List.drop_eq_getElem_cons h1, List.drop_eq_getElem_cons h2]
    have e1 : u[i] = u.getD i 0 := by rw [List.getD_eq_getElem?_getD, List.getElem?_eq_getElem h1]; rfl
    have e2 : (turnW u g)[i] = outAt u g i := by simp [turnW]
    have ih := turnW_rel u g n (i + 1) (by omega)
    refine ⟨?_, ?_⟩
    · rw [e2, e1]
      unfold outAt
      by_cases hh : hitAt u g i = true
      · rw [if_pos hh]
        unfold hitAt at hh
        rw [Bool.and_eq_true, Bool.and_eq_true] at hh
        have h3 := of_decide_eq_true hh.2.1
        refine .inr ⟨?_, h3.1, h3.2, rfl⟩
        have := hh.1
        rw [Bool.not_eq_true'] at this
        exact this
      · rw [if_neg hh]
        exact .inl rfl
    · rw [e1]
      exact ih
theorem turnW_all (u : List UInt8) (g : List Bool) : Rel false u (turnW u g) := turnW_rel u g u.length 0 (by omega)
theorem noUp_of {u : List UInt8} (h : ∀ i, i < u.length → ¬ (65 ≤ (u.getD i 0).toNat ∧ (u.getD i 0).toNat ≤ 90)) : NoUp u := fun b hb => by
  obtain ⟨i, hi, e⟩ := List.getElem_of_mem hb
  have := h i hi
  rw [List.getD_eq_getElem?_getD, List.getElem?_eq_getElem hi] at this
  rw [← e]; exact this
theorem noRem_of {u : List UInt8} (h : ∀ i, 0 < i → i < u.length → ¬ (u.getD i 0 = 45 ∧ u.getD (i - 1) 0 = 45)) : NoRem u := fun a r e => by
  subst e
  refine h (a.length + 1) (by omega) (by rw [List.length_append]; simp only [List.length_cons]; omega) ⟨?_, ?_⟩
  · rw [List.getD_eq_getElem?_getD, List.getElem?_append_right (by omega), show a.length + 1 - a.length = 1 from by omega]; rfl
  · rw [show a.length + 1 - 1 = a.length from rfl, List.getD_eq_getElem?_getD, List.getElem?_append_right (by omega), Nat.sub_self]; rfl
/-- a token behind a token -/
theorem case_step {u v : List UInt8} (hl : u.length ≤ 65536) {a : Nat} (ha : a ≤ u.length) (h : Rel false (u.drop a) (v.drop a)) (he : v.length = u.length) (hu : NoUp u) (hr : NoRem u) :
    nextS v a = nextS u a ∧ ((nextS u a).e = 0 → (nextS u a).w.k ≠ 7 → ∃ j : Nat, (nextS u a).w.e = j ∧ a < j ∧ j ≤ u.length ∧ Rel false (u.drop j) (v.drop j)) := by
  rw [next_tokS hl ha, next_tokS (by omega) (by omega)]
  obtain ⟨e1, e2⟩ := rel_tok h (hu.drop a) (hr.drop a) a
  refine ⟨e1, fun h1 h2 => ?_⟩
  generalize ht : u.drop a = t at *
  have htl : t.length = u.length - a := by rw [← ht, List.length_drop]
  have h3 := skipN_le false t
  have h4 := found_le (t.drop (skipN false t))
  rw [List.length_drop] at h4
  unfold tokS at h1 h2 ⊢
  split at h1
  · rename_i h5
    rw [if_pos h5] at h2
    exact absurd rfl h2
  · rename_i h5
    rw [if_neg h5] at h2 ⊢
    split at h1
    · exact absurd h1 (by simp)
    · rename_i h6
      rw [if_neg h6]
      refine ⟨_, rfl, by omega, by omega, ?_⟩
      rw [Nat.add_assoc]
      generalize skipN false t + (foundS (t.drop (skipN false t))).l = k at *
      rw [← ht, List.drop_drop, List.drop_drop] at e2
      exact e2
end Go.Proofs.YtejepcnoflahkaaDoor
end

section
namespace Go.Proofs.YtejepcnoflahkaaDoor
open Go Go.Ab
set_option linter.unusedVariables false
set_option linter.unusedSimpArgs false
set_option maxRecDepth 100000
set_option maxHeartbeats 8000000

noncomputable def EWp : Env := { EHX with hp := true }
theorem EWp_ok : EnvOk Tryd.prog EWp := ⟨EHX_ok.g, EHX_ok.s, EHX_ok.t, EHX_ok.h⟩
def bF (bs : List Bool) : Nat → AV := fun i => .bool (bs.getD i false)
def tuF (s : List UInt8) (g : List Bool) (i j : Nat) : AV := .int .u8 (cond (Nat.blt j i) ((outAt s g j).toNat : Int) ((s.getD j 0).toNat : Int))
theorem tuF_b (s : List UInt8) (g : List Bool) (i j : Nat) : isByte (tuF s g i j) := by
  unfold tuF
  cases Nat.blt j i <;> exact isB _
theorem blt_t {i j : Nat} (h : j < i) : Nat.blt j i = true := by rw [Nat.blt, Nat.ble_eq]; exact h
theorem blt_f {i j : Nat} (h : ¬ j < i) : Nat.blt j i = false := Bool.eq_false_iff.2 fun e => h (Nat.le_of_ble_eq_true e)
theorem tuF_no {s : List UInt8} {g : List Bool} {i j : Nat} (h : j = i → outAt s g j = s.getD j 0) : tuF s g i j = tuF s g (i + 1) j := by
  unfold tuF
  by_cases h1 : j < i
  · rw [blt_t h1, blt_t (by omega)]
  · by_cases h2 : j = i
    · rw [blt_f h1, blt_t (by omega)]
      show AV.int .u8 _ = AV.int .u8 _
      simp only [cond_true, cond_false]
      rw [h h2]
    · rw [blt_f h1, blt_f (by omega)]
theorem tuF_end (s : List UInt8) (g : List Bool) : (List.range s.length).map (fun j => byteOfA (tuF s g s.length (0 + j))) = turnW s g := by
  unfold turnW
  refine List.map_congr_left fun j hj => ?_
  have hj' : j < s.length := by simpa using hj
  unfold tuF
  rw [Nat.zero_add, blt_t hj']
  simp [byteOfA]
@[reducible] def cT (s : List UInt8) (g : List Bool) (i : Nat) : Int := cond (Nat.blt (0 + ((i : Nat) : Int).toNat) i) ((outAt s g (0 + ((i : Nat) : Int).toNat)).toNat : Int) ((s.getD (0 + ((i : Nat) : Int).toNat) 0).toNat : Int)
theorem cT_is (s : List UInt8) (g : List Bool) (i : Nat) : cT s g i = ((s.getD i 0).toNat : Int) := by
  unfold cT
  rw [Int.toNat_natCast, Nat.zero_add, blt_f (Nat.lt_irrefl i)]; rfl
theorem wrap8' {n : Int} (h : 0 ≤ n ∧ n ≤ 255) : IntKind.u8.wrap n = n := by
  have : ∀ m : Fin 256, IntKind.u8.wrap ((m.val : Nat) : Int) = ((m.val : Nat) : Int) := by decide +kernel
  have h2 := this ⟨n.toNat, by omega⟩
  simp only at h2
  rwa [Int.toNat_of_nonneg h.1] at h2
theorem tuF_st {s : List UInt8} {g : List Bool} {i : Nat} (h : hitAt s g i = true) (j : Nat) : upd (tuF s g i) (0 + ((i : Nat) : Int).toNat) (.int .u8 (IntKind.u8.wrap (cT s g i - 32))) j = tuF s g (i + 1) j := by
  have h1 : 97 ≤ (s.getD i 0).toNat ∧ (s.getD i 0).toNat ≤ 122 := by
    unfold hitAt at h
    rw [Bool.and_eq_true, Bool.and_eq_true] at h
    exact of_decide_eq_true h.2.1
  have e1 : IntKind.u8.wrap (cT s g i - 32) = ((outAt s g i).toNat : Int) := by
    unfold outAt
    rw [if_pos h, cT_is, UInt8.toNat_sub]
    show _ = (((2 ^ 8 - 32 + (s.getD i 0).toNat) % 2 ^ 8 : Nat) : Int)
    have : IntKind.u8.wrap (((s.getD i 0).toNat : Int) - 32) = ((s.getD i 0).toNat : Int) - 32 := wrap8' ⟨by omega, by omega⟩
    rw [this]
    omega
  rw [e1, Int.toNat_natCast, Nat.zero_add]
  by_cases e : j = i
  · subst e
    rw [upd_same]
    unfold tuF
    rw [blt_t (Nat.lt_succ_self j)]; rfl
  · rw [upd_ne _ _ e]
    exact tuF_no (fun e' => absurd e' e)
theorem byte_eq39 (b : UInt8) : (((b.toNat : Nat) : Int) == 39) = decide (b = 39) := by
  have : ∀ n : Fin 256, ((n.val : Int) == 39) = decide (UInt8.ofNat n.val = 39) := by decide +kernel
  have := this ⟨b.toNat, b.toNat_lt⟩
  simpa using this
set_option smartUnfolding false in
theorem pc_turned (s : List UInt8) (g : List Bool) (hn : s.length ≤ 65536) (hg : g.length ≤ 9223372036854775807) : PC Tryd.prog GW 6 [.str s, .sl .no g.length (bF g)] (.str (turnW s g)) := by
  refine pc_fin EWp_ok mixed (show Tryd.prog.funcs[6]? = some Tryd.f6 from rfl) ?_
  refine loop_fam EWp_ok mixed (σ := Nat) (fun i => i ≤ s.length) (fun i => s.length - i) 0 (Nat.zero_le _) 1 0 [0, 1, 5, 11] (fun i => [(6, .bool (qAt s i)), (12, .int .i64 i)]) [] (fun i => [(0, .arr 5 1 s.length (tuF s g i))]) (fun _ => []) ?_ ?_ ?_ ?_
  · rfl
  · rfl
  · refine Wk.mk' rfl rfl trivial ?_ ?_
    · repeat' (refine BR.mk (fun _ => ?_) (fun _ => ?_))
      any_goals first | exact trivial | exact Wv.any _ | (refine Wv.int ?_; with_reducible rfl) | (refine Wv.str ?_; with_reducible rfl) | (refine Wv.bool ?_; with_reducible rfl) | refine Wv.int ?_ | refine Wv.str ?_ | refine Wv.bool ?_ | exact Wv.same rfl
      all_goals rfl
    · refine BR.mk (fun _ => ?_) (fun _ => trivial)
      exact ⟨Nat.le_of_ble_eq_true rfl, .inl ⟨rfl, _, rfl, rfl, rfl, Nat.le_refl _, fun j hj => wv_byte' (isB _) rfl⟩⟩
  · rintro i hi
    by_cases hil : i < s.length
    · have k1 : decide ((i : Int) < (s.length : Int)) = true := decide_eq_true (by omega)
      have w1 : IntKind.i64.wrap ((i : Int) + 1) = ((i + 1 : Nat) : Int) := (wrap_id (by unfold i64; omega)).trans (by omega)
      have z0 : ((0 : Int) ≤ (i : Int) ∧ (i : Int) < (s.length : Int)) ∧ 1 = 1 := ⟨⟨by omega, by omega⟩, rfl⟩
      have z1 : 0 + ((i : Nat) : Int).toNat < s.length ∧ 1 = 1 := ⟨by rw [Int.toNat_natCast]; omega, rfl⟩
      have c39 : (cT s g i == 39) = decide (s.getD i 0 = 39) := by rw [cT_is]; exact byte_eq39 _
      by_cases hb : s.getD i 0 = 39
      · have g1 : (cT s g i == 39) = true := by rw [c39]; exact decide_eq_true hb
        have g2 : decide (cT s g i ≥ 97) = false := by rw [cT_is, hb]; decide
        have noo : outAt s g i = s.getD i 0 := by
          unfold outAt hitAt
          rw [if_neg]
          rw [hb, Bool.and_eq_true, Bool.and_eq_true]
          exact fun e => absurd (of_decide_eq_true e.2.1) (by decide)
        have eq : (!qAt s i) = qAt s (i + 1) := by
          show _ = flipQ (qAt s i) (s.getD i 0)
          rw [hb]; rfl
        repeat' (refine BR.mk (fun h => ?_) (fun h => ?_) <;> first | with_reducible exact Bool.noConfusion h | with_reducible exact Bool.noConfusion (k1.symm.trans h) | with_reducible exact Bool.noConfusion (g1.symm.trans h) | with_reducible exact Bool.noConfusion (g2.symm.trans h) | skip)
        all_goals first | exact z0 | exact z1 | skip
        all_goals refine Again.fam (i + 1) (show i + 1 ≤ s.length by omega) (show s.length - (i + 1) < s.length - i by omega) rfl rfl rfl rfl trivial ?_ ?_
        all_goals first | (refine BR.mk (fun _ => ⟨Nat.le_of_ble_eq_true rfl, .inl ⟨rfl, _, rfl, rfl, rfl, Nat.le_refl _, fun j hj => wv_byte' (tuF_b _ _ _ _) (tuF_no (fun e => by rw [e]; exact noo))⟩⟩) (fun _ => trivial)) | skip
        all_goals repeat' (refine BR.mk (fun _ => ?_) (fun _ => ?_))
        all_goals (any_goals first | exact trivial | exact Wv.any _ | (refine Wv.int ?_; with_reducible rfl) | refine Wv.int ?_ | refine Wv.bool ?_ | exact Wv.same rfl)
        all_goals first | exact w1 | exact eq
      · have g1 : (cT s g i == 39) = false := by rw [c39]; exact decide_eq_false hb
        have eq : qAt s i = qAt s (i + 1) := by
          show _ = flipQ (qAt s i) (s.getD i 0)
          rw [flip_ne hb]
        by_cases hh : hitAt s g i = true
        · have hh2 := hh
          unfold hitAt at hh2
          rw [← eq, Bool.and_eq_true, Bool.and_eq_true] at hh2
          have hr := of_decide_eq_true hh2.2.1
          have hgl : i < g.length := by
            refine Classical.byContradiction fun hc => ?_
            have := hh2.2.2
            rw [List.getD_eq_getElem?_getD, List.getElem?_eq_none (by omega)] at this
            cases this
          have g2 : (!qAt s i) = true := hh2.1
          have g3 : decide (cT s g i ≥ 97) = true := by rw [cT_is]; exact decide_eq_true (by omega)
          have g4 : decide (cT s g i ≤ 122) = true := by rw [cT_is]; exact decide_eq_true (by omega)
          have g5 : decide ((i : Int) < (g.length : Int)) = true := decide_eq_true (by omega)
          have g6 : g.getD ((i : Int)).toNat false = true := by rw [Int.toNat_natCast]; exact hh2.2.2
          have z2 : ((0 : Int) ≤ (i : Int) ∧ (i : Int) < (g.length : Int)) := ⟨by omega, by omega⟩
          repeat' (refine BR.mk (fun h => ?_) (fun h => ?_) <;> first | with_reducible exact Bool.noConfusion h | with_reducible exact Bool.noConfusion (k1.symm.trans h) | with_reducible exact Bool.noConfusion (g1.symm.trans h) | with_reducible exact Bool.noConfusion (g2.symm.trans h) | with_reducible exact Bool.noConfusion (g3.symm.trans h) | with_reducible exact Bool.noConfusion (g4.symm.trans h) | with_reducible exact Bool.noConfusion (g5.symm.trans h) | with_reducible exact Bool.noConfusion (g6.symm.trans h) | skip)
          all_goals first | exact ⟨z2, rfl, rfl⟩ | skip
          all_goals first | exact z0 | exact z1 | skip
          all_goals refine Again.fam (i + 1) (show i + 1 ≤ s.length by omega) (show s.length - (i + 1) < s.length - i by omega) rfl rfl rfl rfl trivial ?_ ?_
          all_goals first | (refine BR.mk (fun _ => ⟨Nat.le_of_ble_eq_true rfl, .inl ⟨rfl, _, rfl, rfl, rfl, Nat.le_refl _, fun j hj => wv_byte' (tuF_b _ _ _ _) (tuF_st hh j)⟩⟩) (fun _ => trivial)) | skip
          all_goals repeat' (refine BR.mk (fun _ => ?_) (fun _ => ?_))
          all_goals (any_goals first | exact trivial | exact Wv.any _ | (refine Wv.int ?_; with_reducible rfl) | refine Wv.int ?_ | refine Wv.bool ?_ | exact Wv.same rfl)
          all_goals first | exact w1 | exact eq
        · have noo : outAt s g i = s.getD i 0 := by unfold outAt; rw [if_neg hh]
          have nd : (!qAt s i) = true → decide (cT s g i ≥ 97) = true → decide (cT s g i ≤ 122) = true → decide ((i : Int) < (g.length : Int)) = true → g.getD ((i : Int)).toNat false = true → False := fun a b c d e => by
            rw [cT_is] at b c
            rw [Int.toNat_natCast] at e
            refine hh ?_
            unfold hitAt
            rw [← eq, a, e, decide_eq_true (show 97 ≤ (s.getD i 0).toNat ∧ (s.getD i 0).toNat ≤ 122 from ⟨by have := of_decide_eq_true b; omega, by have := of_decide_eq_true c; omega⟩)]
            rfl
          have z2 : decide ((i : Int) < (g.length : Int)) = true → ((0 : Int) ≤ (i : Int) ∧ (i : Int) < (g.length : Int)) := fun h => ⟨by omega, of_decide_eq_true h⟩
          repeat' (refine BR.mk (fun h => ?_) (fun h => ?_) <;> first | with_reducible exact Bool.noConfusion h | with_reducible exact Bool.noConfusion (k1.symm.trans h) | with_reducible exact Bool.noConfusion (g1.symm.trans h) | with_reducible exact (nd (by assumption) (by assumption) (by assumption) (by assumption) h).elim | skip)
          all_goals first | exact ⟨z2 (by assumption), rfl, rfl⟩ | skip
          all_goals first | exact z0 | exact z1 | skip
          all_goals refine Again.fam (i + 1) (show i + 1 ≤ s.length by omega) (show s.length - (i + 1) < s.length - i by omega) rfl rfl rfl rfl trivial ?_ ?_
          all_goals first | (refine BR.mk (fun _ => ⟨Nat.le_of_ble_eq_true rfl, .inl ⟨rfl, _, rfl, rfl, rfl, Nat.le_refl _, fun j hj => wv_byte' (tuF_b _ _ _ _) (tuF_no (fun e => by rw [e]; exact noo))⟩⟩) (fun _ => trivial)) | skip
          all_goals repeat' (refine BR.mk (fun _ => ?_) (fun _ => ?_))
          all_goals (any_goals first | exact trivial | exact Wv.any _ | (refine Wv.int ?_; with_reducible rfl) | refine Wv.int ?_ | refine Wv.bool ?_ | exact Wv.same rfl)
          all_goals first | exact w1 | exact eq
    · have k1 : decide ((i : Int) < (s.length : Int)) = false := decide_eq_false (by omega)
      obtain rfl : i = s.length := by omega
      repeat' (refine BR.mk (fun h => ?_) (fun h => ?_) <;> first | with_reducible exact Bool.noConfusion h | with_reducible exact Bool.noConfusion (k1.symm.trans h) | skip)
      · exact ⟨rfl, rfl, by omega, fun j hj => trivial⟩
      · exact Fini.mk (congrArg AV.str (tuF_end s g))
def isBo : AV → Bool
  | .bool _ => true
  | _ => false
def boO : AV → Bool
  | .bool b => b
  | _ => false
def hBl (n : Nat) (f : Nat → AV) : List Bool := (List.range n).map fun i => boO (f i)
theorem hBl_len (n : Nat) (f : Nat → AV) : (hBl n f).length = n := by simp [hBl]
theorem hBl_get {n : Nat} {f : Nat → AV} (h : ∀ i, i < n → isBo (f i) = true) (i : Nat) (hi : i < n) : f i = bF (hBl n f) i := by
  have h1 := h i hi
  unfold bF hBl
  simp only [List.getD_eq_getElem?_getD, List.getElem?_map, List.getElem?_range hi, Option.map_some, Option.getD_some]
  cases hf : f i <;> rw [hf] at h1 <;> first | rfl | cases h1
theorem hBl_bF (g : List Bool) : hBl g.length (bF g) = g := by
  unfold hBl bF
  refine List.ext_getElem (by simp) fun j h1 h2 => ?_
  simp [boO, h2]
def h_turned : List AV → CR
  | [.str s, .sl _ n f] => @CR.need ((s.length ≤ 65536 ∧ n ≤ 9223372036854775807) ∧ ∀ i, i < n → isBo (f i) = true) inferInstance (.str (turnW s (hBl n f)))
  | _ => .no
theorem h_turned_ok (xs : List AV) : CRok Tryd.prog GW 6 xs (h_turned xs) := by
  unfold h_turned
  split
  · rename_i s tag n f
    rintro ⟨⟨hs, hn⟩, hf⟩
    have h0 := pc_turned s (hBl n f) hs (by rw [hBl_len]; exact hn)
    rw [hBl_len] at h0
    refine pc_args ?_ h0
    intro X vs h
    cases h with | cons h1 hs => cases hs with | cons h2 hs =>
    exact .cons h1 (.cons (rep_slice (fun i hi => hBl_get hf i hi) (rep_tag h2)) hs)
  · trivial
noncomputable def ETU : Env := EHX.add 6 h_turned
theorem ETU_ok : EnvOk Tryd.prog ETU := Env.add_ok EHX_ok (by kernel_rfl) h_turned_ok
theorem get_at (s : List UInt8) (i : Nat) : (ByteArray.mk s.toArray).get! i = s.getD i 0 := by
  show s.toArray[i]! = _
  rw [List.getElem!_toArray, List.getD_eq_getElem?_getD]
  by_cases h : i < s.length
  · rw [getElem!_pos s i h, List.getElem?_eq_getElem h]; rfl
  · rw [getElem!_neg s i h, List.getElem?_eq_none (by omega)]; rfl
theorem decode_w (s : List UInt8) (p : Nat) (hp : p < s.length) : ∃ w, (Utf8.decode ⟨s.toArray⟩ p).2 = w ∧ 1 ≤ w ∧ p + w ≤ s.length ∧ ∀ j, p < j → j < p + w → 128 ≤ (s.getD j 0).toNat := by
  have hs : (ByteArray.mk s.toArray).size = s.length := by simp [ByteArray.size]
  have hc : ∀ k, (decide (p + k < (ByteArray.mk s.toArray).size) && ((ByteArray.mk s.toArray).get! (p + k)).toNat / 64 == 2) = true → p + k < s.length ∧ 128 ≤ (s.getD (p + k) 0).toNat := fun k h => by
    rw [Bool.and_eq_true, hs, get_at] at h
    have h1 := of_decide_eq_true h.1
    have h2 : (s.getD (p + k) 0).toNat / 64 = 2 := by simpa using h.2
    exact ⟨h1, by omega⟩
  have one : ∀ c, ∃ w, ((c, 1) : Nat × Nat).2 = w ∧ 1 ≤ w ∧ p + w ≤ s.length ∧ ∀ j, p < j → j < p + w → 128 ≤ (s.getD j 0).toNat := fun c => ⟨1, rfl, Nat.le_refl _, by omega, fun j h1 h2 => by omega⟩
  unfold Utf8.decode
  simp only
  split
  · exact one _
  · split
    · rename_i h
      rw [Bool.and_eq_true] at h
      obtain ⟨h1, h2⟩ := hc 1 h.2
      split
      · refine ⟨2, rfl, by omega, by omega, fun j j1 j2 => ?_⟩
        obtain rfl : j = p + 1 := by omega
        exact h2
      · exact one _
    · split
      · rename_i h
        rw [Bool.and_eq_true, Bool.and_eq_true] at h
        obtain ⟨h1, h2⟩ := hc 1 h.1.2
        obtain ⟨h3, h4⟩ := hc 2 h.2
        split
        · refine ⟨3, rfl, by omega, by omega, fun j j1 j2 => ?_⟩
          have : j = p + 1 ∨ j = p + 2 := by omega
          rcases this with rfl | rfl
          · exact h2
          · exact h4
        · exact one _
      · split
        · rename_i h
          rw [Bool.and_eq_true, Bool.and_eq_true, Bool.and_eq_true] at h
          obtain ⟨h1, h2⟩ := hc 1 h.1.1.2
          obtain ⟨h3, h4⟩ := hc 2 h.1.2
          obtain ⟨h5, h6⟩ := hc 3 h.2
          split
          · refine ⟨4, rfl, by omega, by omega, fun j j1 j2 => ?_⟩
            have : j = p + 1 ∨ j = p + 2 ∨ j = p + 3 := by omega
            rcases this with rfl | rfl | rfl
            · exact h2
            · exact h4
            · exact h6
          · exact one _
        · exact one _

end Go.Proofs.YtejepcnoflahkaaDoor
end

section
namespace Go.Proofs.YtejepcnoflahkaaDoor
open Go Go.Ab
set_option linter.unusedVariables false
set_option linter.unusedSimpArgs false
set_option maxRecDepth 100000
set_option maxHeartbeats 8000000

/-- a place that is looked at and let pass -/
def okAt (s : List UInt8) (j : Nat) : Prop := ¬ (65 ≤ (s.getD j 0).toNat ∧ (s.getD j 0).toNat ≤ 90) ∧ ¬ (0 < j ∧ s.getD j 0 = 45 ∧ s.getD (j - 1) 0 = 45)
theorem ok_high {s : List UInt8} {j : Nat} (h : 128 ≤ (s.getD j 0).toNat) : okAt s j := ⟨by omega, fun ⟨_, e, _⟩ => by rw [e] at h; exact absurd h (by decide)⟩
structure Seen (s : List UInt8) (p : Nat) : Prop where
  le : p ≤ s.length
  ok : ∀ j, j < p → okAt s j
theorem seen_step {s : List UInt8} {p : Nat} (h : Seen s p) (hp : p < s.length) (ho : okAt s p) : Seen s (stepI s p) ∧ s.length - stepI s p < s.length - p := by
  obtain ⟨w, e, h1, h2, h3⟩ := decode_w s p hp
  have : stepI s p = p + w := by
    unfold stepI
    rw [blt_t hp, e]
  rw [this]
  refine ⟨⟨h2, fun j hj => ?_⟩, by omega⟩
  by_cases hjp : j < p
  · exact h.ok j hjp
  · by_cases e2 : j = p
    · rw [e2]; exact ho
    · exact ok_high (h3 j (by omega) hj)
@[reducible] def bI (s : List UInt8) (p : Nat) : Int := ((s.getD ((p : Int)).toNat 0).toNat : Int)
@[reducible] def bP (s : List UInt8) (p : Nat) : Int := ((s.getD (IntKind.i64.wrap ((p : Int) - 1)).toNat 0).toNat : Int)
theorem bI_is (s : List UInt8) (p : Nat) : bI s p = ((s.getD p 0).toNat : Int) := by unfold bI; rw [Int.toNat_natCast]
theorem byte_eq45 (b : UInt8) : (((b.toNat : Nat) : Int) == 45) = decide (b = 45) := by
  have : ∀ n : Fin 256, ((n.val : Int) == 45) = decide (UInt8.ofNat n.val = 45) := by decide +kernel
  have := this ⟨b.toNat, b.toNat_lt⟩
  simpa using this
theorem bP_is (s : List UInt8) (p : Nat) (h0 : 0 < p) (hp : p ≤ 500) : bP s p = ((s.getD (p - 1) 0).toNat : Int) := by
  unfold bP
  rw [wrap_id (by unfold i64; omega), show ((p : Int) - 1).toNat = p - 1 from by omega]
@[reducible] def tO (s : List UInt8) (g : List Bool) : List UInt8 := turnW s (hBl g.length (bF g))
theorem same_wf {x y : WF} (h : x = y) : (!(y.e == x.e && (y.a == x.a && true))) = false ∧ (!(y.w.k == x.w.k && (y.w.s == x.w.s && (y.w.n == x.w.n && (y.w.a == x.w.a && (y.w.e == x.w.e && true)))))) = false := by subst h; simp
set_option smartUnfolding false in
theorem pc_WordsCase (s : List UInt8) (g : List Bool) (_ : s.length ≤ 9223372036854775807) (hg : g.length ≤ 9223372036854775807) : PC Tryd.prog GW 3 [.str s, .sl .no g.length (bF g)] (.bool true) := by
  refine pc_fin ETU_ok mixed (show Tryd.prog.funcs[3]? = some Tryd.f3 from rfl) ?_
  by_cases hs : s.length > 500
  · have k1 : decide ((s.length : Int) > 500) = true := decide_eq_true (by omega)
    repeat' (refine BR.mk (fun h => ?_) (fun h => ?_) <;> first | with_reducible exact Bool.noConfusion h | with_reducible exact Bool.noConfusion (k1.symm.trans h) | skip)
    all_goals exact Fini.mk rfl
  · have k1 : decide ((s.length : Int) > 500) = false := decide_eq_false (by omega)
    repeat' (refine BR.mk (fun h => ?_) (fun h => ?_) <;> first | with_reducible exact Bool.noConfusion h | with_reducible exact Bool.noConfusion (k1.symm.trans h) | skip)
    refine loop_fam ETU_ok mixed (σ := Nat) (fun p => Seen s p) (fun p => s.length - p) 0 ⟨Nat.zero_le _, fun j h => absurd h (Nat.not_lt_zero _)⟩ 1 0 [0, 1, 17] (fun _ => []) [] (fun p => [(0, .siter s p)]) (fun _ => []) ?_ ?_ ?_ ?_
    · rfl
    · rfl
    · refine Wk.mk' rfl rfl trivial ?_ ?_
      · repeat' (refine BR.mk (fun _ => ?_) (fun _ => ?_))
        any_goals first | exact trivial | exact Wv.any _ | (refine Wv.int ?_; with_reducible rfl) | (refine Wv.str ?_; with_reducible rfl) | (refine Wv.bool ?_; with_reducible rfl) | refine Wv.int ?_ | refine Wv.str ?_ | refine Wv.bool ?_ | exact Wv.same rfl
        all_goals rfl
      · refine BR.mk (fun _ => ?_) (fun _ => trivial)
        exact ⟨Nat.le_of_ble_eq_true rfl, .inl ⟨rfl, _, rfl, rfl, rfl⟩⟩
    · intro p hI
      by_cases hp : p < s.length
      · have k2 : Nat.blt p s.length = true := blt_t hp
        have z1 : (0 : Int) ≤ (p : Int) ∧ (p : Int) < (s.length : Int) := ⟨by omega, by omega⟩
        have z3 : decide ((p : Int) > 0) = true → 0 ≤ IntKind.i64.wrap ((p : Int) - 1) ∧ IntKind.i64.wrap ((p : Int) - 1) < (s.length : Int) := fun h => by
          have := of_decide_eq_true h
          rw [wrap_id (by unfold i64; omega)]; omega
        by_cases hU : 65 ≤ (s.getD p 0).toNat ∧ (s.getD p 0).toNat ≤ 90
        · have u1 : decide (bI s p ≥ 65) = true := by rw [bI_is]; exact decide_eq_true (by omega)
          have u2 : decide (bI s p ≤ 90) = true := by rw [bI_is]; exact decide_eq_true (by omega)
          repeat' (refine BR.mk (fun h => ?_) (fun h => ?_) <;> first | with_reducible exact Bool.noConfusion h | with_reducible exact Bool.noConfusion (k2.symm.trans h) | with_reducible exact Bool.noConfusion (u1.symm.trans h) | with_reducible exact Bool.noConfusion (u2.symm.trans h) | skip)
          all_goals first | with_reducible exact k2 | with_reducible exact z1 | exact Fini.mk rfl
        · have nd : decide (bI s p ≥ 65) = true → decide (bI s p ≤ 90) = true → False := fun a b => by
            rw [bI_is] at a b
            exact hU ⟨by have := of_decide_eq_true a; omega, by have := of_decide_eq_true b; omega⟩
          by_cases hR : 0 < p ∧ s.getD p 0 = 45 ∧ s.getD (p - 1) 0 = 45
          · obtain ⟨h0, h45, hpr⟩ := hR
            have r1 : decide ((p : Int) > 0) = true := decide_eq_true (by omega)
            have r2 : (bI s p == 45) = true := by rw [bI_is, byte_eq45]; exact decide_eq_true h45
            have r3 : (bP s p == 45) = true := by rw [bP_is s p h0 (by omega), byte_eq45]; exact decide_eq_true hpr
            repeat' (refine BR.mk (fun h => ?_) (fun h => ?_) <;> first | with_reducible exact Bool.noConfusion h | with_reducible exact Bool.noConfusion (k2.symm.trans h) | with_reducible exact Bool.noConfusion (r1.symm.trans h) | with_reducible exact Bool.noConfusion (r2.symm.trans h) | with_reducible exact Bool.noConfusion (r3.symm.trans h) | with_reducible exact (nd (by assumption) h).elim | skip)
            all_goals first | with_reducible exact k2 | with_reducible exact z1 | with_reducible exact z3 (by assumption) | exact Fini.mk rfl
          · have nr : decide ((p : Int) > 0) = true → (bI s p == 45) = true → (bP s p == 45) = true → False := fun a b c => by
              have h0 : 0 < p := by have := of_decide_eq_true a; omega
              rw [bI_is, byte_eq45] at b
              rw [bP_is s p h0 (by omega), byte_eq45] at c
              exact hR ⟨h0, of_decide_eq_true b, of_decide_eq_true c⟩
            obtain ⟨hI2, hlt⟩ := seen_step hI hp ⟨hU, hR⟩
            repeat' (refine BR.mk (fun h => ?_) (fun h => ?_) <;> first | with_reducible exact Bool.noConfusion h | with_reducible exact Bool.noConfusion (k2.symm.trans h) | with_reducible exact (nd (by assumption) h).elim | with_reducible exact (nr (by assumption) (by assumption) h).elim | skip)
            all_goals first | with_reducible exact k2 | with_reducible exact z1 | with_reducible exact z3 (by assumption) | skip
            all_goals refine Again.fam (stepI s p) hI2 hlt rfl rfl rfl rfl trivial ?_ ?_
            all_goals first | (refine BR.mk (fun _ => ⟨Nat.le_of_ble_eq_true rfl, .inl ⟨rfl, _, rfl, rfl, rfl⟩⟩) (fun _ => trivial)) | skip
            all_goals repeat' (refine BR.mk (fun _ => ?_) (fun _ => ?_))
            all_goals (any_goals first | exact trivial | exact Wv.any _ | (refine Wv.int ?_; with_reducible rfl) | refine Wv.int ?_ | exact Wv.same rfl)
      · have k2 : Nat.blt p s.length = false := blt_f hp
        obtain rfl : p = s.length := by have := hI.le; omega
        have hu : NoUp s := noUp_of fun i hi => (hI.ok i hi).1
        have hr : NoRem s := noRem_of fun i h0 hi e => (hI.ok i hi).2 ⟨h0, e.1, e.2⟩
        repeat' (refine BR.mk (fun h => ?_) (fun h => ?_) <;> first | with_reducible exact Bool.noConfusion h | with_reducible exact Bool.noConfusion (k2.symm.trans h) | skip)
        · exact ⟨⟨by omega, hg⟩, fun _ _ => rfl⟩
        refine loop_fam ETU_ok mixed (σ := Nat) (fun a => a ≤ s.length ∧ Rel false (s.drop a) ((tO s g).drop a)) (fun a => s.length - a) 0 ⟨Nat.zero_le _, turnW_all s _⟩ 1 0 [0, 6] (fun a => [(7, .int .i64 a)]) [] (fun _ => []) (fun _ => []) ?_ ?_ ?_ ?_
        · rfl
        · rfl
        · refine Wk.mk' rfl rfl trivial ?_ trivial
          repeat' (refine BR.mk (fun _ => ?_) (fun _ => ?_))
          any_goals first | exact trivial | exact Wv.any _ | (refine Wv.int ?_; with_reducible rfl) | (refine Wv.str ?_; with_reducible rfl) | (refine Wv.bool ?_; with_reducible rfl) | refine Wv.int ?_ | refine Wv.str ?_ | refine Wv.bool ?_ | exact Wv.same rfl
          all_goals rfl
        · rintro a ⟨ha, hrel⟩
          have k3 : decide ((a : Int) ≤ (s.length : Int)) = true := decide_eq_true (by omega)
          obtain ⟨e1, e2⟩ := case_step (v := tO s g) (by omega) ha hrel (turnW_len s _) hu hr
          obtain ⟨f1, f2⟩ := same_wf e1
          by_cases he : (nextS s a).e = 0
          · have g1 : ((nextS s a).e != 0) = false := by simpa using he
            by_cases hk : (nextS s a).w.k = 7
            · have g2 : ((nextS s a).w.k == 7) = true := by simpa using hk
              repeat' (refine BR.mk (fun h => ?_) (fun h => ?_) <;> first | with_reducible exact Bool.noConfusion h | with_reducible exact Bool.noConfusion (k3.symm.trans h) | with_reducible exact Bool.noConfusion (f1.symm.trans h) | with_reducible exact Bool.noConfusion (f2.symm.trans h) | with_reducible exact Bool.noConfusion (g1.symm.trans h) | with_reducible exact Bool.noConfusion (g2.symm.trans h) | skip)
              all_goals exact Fini.mk rfl
            · have g2 : ((nextS s a).w.k == 7) = false := by simpa using hk
              obtain ⟨j, ej, haj, hjs, hrj⟩ := e2 he hk
              have g3 : decide ((nextS s a).w.e ≤ (a : Int)) = false := decide_eq_false (by rw [ej]; omega)
              repeat' (refine BR.mk (fun h => ?_) (fun h => ?_) <;> first | with_reducible exact Bool.noConfusion h | with_reducible exact Bool.noConfusion (k3.symm.trans h) | with_reducible exact Bool.noConfusion (f1.symm.trans h) | with_reducible exact Bool.noConfusion (f2.symm.trans h) | with_reducible exact Bool.noConfusion (g1.symm.trans h) | with_reducible exact Bool.noConfusion (g2.symm.trans h) | with_reducible exact Bool.noConfusion (g3.symm.trans h) | skip)
              refine Again.fam j ⟨hjs, hrj⟩ (by show s.length - j < s.length - a; omega) rfl rfl rfl rfl trivial ?_ trivial
              repeat' (refine BR.mk (fun _ => ?_) (fun _ => ?_))
              any_goals first | exact trivial | exact Wv.any _ | (refine Wv.int ?_; with_reducible rfl) | (refine Wv.str ?_; with_reducible rfl) | (refine Wv.bool ?_; with_reducible rfl) | refine Wv.int ?_ | refine Wv.str ?_ | refine Wv.bool ?_ | exact Wv.same rfl
              exact ej
          · have g1 : ((nextS s a).e != 0) = true := by simpa using he
            repeat' (refine BR.mk (fun h => ?_) (fun h => ?_) <;> first | with_reducible exact Bool.noConfusion h | with_reducible exact Bool.noConfusion (k3.symm.trans h) | with_reducible exact Bool.noConfusion (f1.symm.trans h) | with_reducible exact Bool.noConfusion (f2.symm.trans h) | with_reducible exact Bool.noConfusion (g1.symm.trans h) | skip)
            all_goals exact Fini.mk rfl

end Go.Proofs.YtejepcnoflahkaaDoor
end
