/- The symbolic evaluator: its soundness: regions in any order, code, functions, loops. -/
import Derived.Test.YtejepcnoflahkaaGreatDoorAbSound11
namespace Go.Ab
set_option linter.unusedVariables false
set_option linter.unusedSimpArgs false

section
variable {E : Env} {ops : List Oper}
/-- An operation may be taken ahead of those that it does not touch. -/
theorem ex_pull {i : Nat} : ∀ {pre post : List Nat} {s s' : St}, Wf s → (∀ j ∈ pre, ∀ x y, ops[j]? = some x → ops[i]? = some y → apartT ops x y = true ∧ clash (effH E x.op) (effH E y.op) = false) → Ex E ops (pre ++ i :: post) s s' →
    ∃ o u s'', ops[i]? = some o ∧ Stp E ops o s u ∧ Ex E ops (pre ++ post) u s'' ∧ Eqv s' s''
  | [], post, s, s', hw, hp, h => by
    obtain ⟨o, u, hi, hs, hl⟩ := h
    exact ⟨o, u, s', hi, hs, hl, Eqv.refl _⟩
  | j :: pre, post, s, s', hw, hp, h => by
    obtain ⟨x, s1, hj, hs1, hl⟩ := h
    obtain ⟨y, u1, s'', hi, hs2, hl2, he⟩ := ex_pull (hs1.wf hw) (fun k hk => hp k (by simp [hk])) hl
    obtain ⟨h1, h2⟩ := hp j (by simp) x y hj hi
    obtain ⟨v1, v2, hv1, hv2, hv⟩ := stp_swap hw h1 h2 hs1 hs2
    obtain ⟨z, hz1, hz2⟩ := ex_eqv hv hl2
    exact ⟨y, v1, z, hi, hv1, ⟨x, v2, hj, hv2, hz1⟩, he.trans hz2⟩

/-! What must have come ahead has come ahead. -/
theorem closE_bit {acc : List Nat} {j : Nat} : ∀ {es : List Edge}, (closE acc es).testBit j = true → ∃ e ∈ es, Region.binds .any e = true ∧ (j = e.on ∨ (acc.getD e.on 0).testBit j = true)
  | [], h => by simp [closE] at h
  | e :: es, h => by
    simp only [closE] at h
    split at h
    · rename_i hb
      simp only [Nat.testBit_or, Bool.or_eq_true, Nat.testBit_two_pow, decide_eq_true_eq] at h
      rcases h with (h | h) | h
      · exact ⟨e, by simp, hb, .inl h.symm⟩
      · exact ⟨e, by simp, hb, .inr h⟩
      · obtain ⟨e', h1, h2⟩ := closE_bit h
        exact ⟨e', by simp [h1], h2⟩
    · obtain ⟨e', h1, h2⟩ := closE_bit h
      exact ⟨e', by simp [h1], h2⟩
theorem closL_get : ∀ {os : List Oper} {acc : List Nat} {i : Nat}, i < acc.length → (closL os acc).getD i 0 = acc.getD i 0
  | [], acc, i, h => rfl
  | o :: os, acc, i, h => by
    simp only [closL]
    rw [closL_get (by simp; omega)]
    simp [List.getD_eq_getElem?_getD, List.getElem?_append_left h]
theorem closL_at : ∀ {os : List Oper} {acc : List Nat} {k : Nat} {o : Oper}, os[k]? = some o → (closL os acc).getD (acc.length + k) 0 = closE ((closL os acc).take (acc.length + k)) o.after.toList
  | [], acc, k, o, h => by simp at h
  | o' :: os, acc, k, o, h => by
    cases k with
    | zero =>
      simp only [List.getElem?_cons_zero, Option.some.injEq] at h
      subst h
      simp only [closL, Nat.add_zero]
      have hpre : (closL os (acc ++ [closE acc o'.after.toList])).take acc.length = acc := by
        apply List.ext_getElem?
        intro i
        rw [List.getElem?_take]
        by_cases hi : i < acc.length
        · rw [if_pos hi]
          have := closL_pre os (acc ++ [closE acc o'.after.toList]) i (by simp; omega)
          rw [this, List.getElem?_append_left hi]
        · rw [if_neg hi, List.getElem?_eq_none (by omega)]
      rw [hpre, closL_get (by simp)]
      simp [List.getD_eq_getElem?_getD]
    | succ k =>
      have := closL_at (os := os) (acc := acc ++ [closE acc o'.after.toList]) (k := k) (o := o) (by simpa using h)
      simp only [List.length_append, List.length_cons, List.length_nil] at this
      rw [show acc.length + (k + 1) = acc.length + 1 + k from by omega]
      exact this
where
  closL_pre : ∀ (os : List Oper) (acc : List Nat) (i : Nat), i < acc.length → (closL os acc)[i]? = acc[i]?
    | [], acc, i, h => rfl
    | o :: os, acc, i, h => by
      simp only [closL]
      rw [closL_pre os _ i (by simp; omega), List.getElem?_append_left h]
theorem edgesBack_mem {i : Nat} : ∀ {es : List Edge}, edgesBack i es = true → ∀ e ∈ es, Region.binds .any e = true → e.on < i
  | [], _, e, he, _ => by cases he
  | d :: es, h, e, he, hb => by
    simp only [edgesBack, Bool.and_eq_true, Bool.or_eq_true, Bool.not_eq_true'] at h
    cases he with
    | head =>
      rcases h.1 with h | h
      · rw [hb] at h; cases h
      · simpa [Nat.blt_eq] using h
    | tail _ he => exact edgesBack_mem h.2 e he hb
theorem backward_at : ∀ {os : List Oper} {k i : Nat} {o : Oper}, backward os k = true → os[i]? = some o → edgesBack (k + i) o.after.toList = true
  | [], k, i, o, _, h => by simp at h
  | o' :: os, k, i, o, hb, h => by
    simp only [backward, Bool.and_eq_true] at hb
    cases i with
    | zero => simp only [List.getElem?_cons_zero, Option.some.injEq] at h; subst h; exact hb.1
    | succ i =>
      have := backward_at hb.2 (by simpa using h)
      rwa [show k + 1 + i = k + (i + 1) from by omega] at this

/-- listed: closed under what must come ahead -/
def Down (ops : List Oper) (listed : Array Bool) : Prop := ∀ i o, ops[i]? = some o → listed.getD i true = true → ∀ e ∈ o.after.toList, Region.binds .any e = true → listed.getD e.on false = true

theorem bit_listed {listed : Array Bool} (hsz : listed.size = ops.length) (hback : backward ops 0 = true) (hd : Down ops listed) : ∀ (i : Nat) (o : Oper) (j : Nat), ops[i]? = some o → (∀ e ∈ o.after.toList, Region.binds .any e = true → listed.getD e.on false = true) →
    ((closL ops []).getD i 0).testBit j = true → listed.getD j false = true := by
  intro i
  induction i using Nat.strongRecOn with
  | _ i ih =>
    intro o j hi he hb
    have hat := closL_at (os := ops) (acc := []) (k := i) hi
    simp only [List.length_nil, Nat.zero_add] at hat
    rw [hat] at hb
    obtain ⟨e, h1, h2, h3⟩ := closE_bit hb
    have hlt : e.on < i := by
      have := edgesBack_mem (backward_at hback hi) e h1 h2
      omega
    have hle := he e h1 h2
    rcases h3 with rfl | h3
    · exact hle
    · have hlen : e.on < ops.length := by
        have := (List.getElem?_eq_some_iff.1 hi).1
        omega
      obtain ⟨o', ho'⟩ : ∃ o', ops[e.on]? = some o' := ⟨ops[e.on], by simp [hlen]⟩
      have hle' : listed.getD e.on true = true := by
        rw [Array.getD_eq_getD_getElem?] at hle ⊢
        have : e.on < listed.size := by omega
        simp only [Array.getElem?_eq_getElem this, Option.getD_some] at hle ⊢
        exact hle
      refine ih e.on hlt o' j ho' (hd _ _ ho' hle') ?_
      rw [List.getD_eq_getElem?_getD, List.getElem?_take, if_pos hlt, ← List.getD_eq_getElem?_getD] at h3
      exact h3
end

def unlisted (listed : Array Bool) (n : Nat) : List Nat := (List.range n).filter fun i => !listed.getD i true
theorem range_split {n i : Nat} (h : i < n) : List.range n = List.range i ++ i :: List.range' (i + 1) (n - (i + 1)) := by
  rw [List.range_eq_range', List.range_eq_range', ← List.range'_succ]
  have := List.range'_append_1 (s := 0) (m := i) (n := n - i)
  rw [Nat.zero_add] at this
  rw [show n - (i + 1) + 1 = n - i from by omega, this]
  congr 1; omega
def lowU (listed : Array Bool) (i : Nat) : List Nat := (List.range i).filter fun j => !listed.getD j true
def highU (listed : Array Bool) (n i : Nat) : List Nat := (List.range' (i + 1) (n - (i + 1))).filter fun j => !listed.getD j true
theorem unlisted_split' {listed : Array Bool} {n i : Nat} (hn : n = listed.size) (hi : i < n) (hu : listed.getD i true = false) :
    unlisted listed n = lowU listed i ++ i :: highU listed n i ∧ unlisted (listed.setIfInBounds i true) n = lowU listed i ++ highU listed n i ∧ ∀ j ∈ lowU listed i, j < i ∧ listed.getD j true = false := by
  have hne : ∀ j, j ≠ i → (listed.setIfInBounds i true).getD j true = listed.getD j true := by
    intro j hj
    simp only [Array.getD_eq_getD_getElem?]
    rw [Array.getElem?_setIfInBounds_ne (fun e => hj e.symm)]
  have heq : (listed.setIfInBounds i true).getD i true = true := by
    simp [Array.getD_eq_getD_getElem?, ← hn, hi]
  unfold lowU highU
  refine ⟨?_, ?_, ?_⟩
  · simp only [unlisted]
    rw [range_split hi, List.filter_append, List.filter_cons_of_pos (by simp [hu])]
  · simp only [unlisted]
    rw [range_split hi, List.filter_append, List.filter_cons_of_neg (by simp [heq])]
    congr 1
    · apply List.filter_congr
      intro j hj
      rw [hne j (by have := List.mem_range.1 hj; omega)]
    · apply List.filter_congr
      intro j hj
      rw [hne j (by have := List.mem_range'.1 hj; omega)]
  · intro j hj
    simp only [List.mem_filter, List.mem_range, Bool.not_eq_true'] at hj
    exact hj
theorem unlisted_split {listed : Array Bool} {n i : Nat} (hn : n = listed.size) (hi : i < n) (hu : listed.getD i true = false) :
    ∃ pre post, unlisted listed n = pre ++ i :: post ∧ unlisted (listed.setIfInBounds i true) n = pre ++ post ∧ ∀ j ∈ pre, j < i ∧ listed.getD j true = false := ⟨_, _, unlisted_split' hn hi hu⟩
/-- p and p + 1 turned -/
def turn (p j : Nat) : Nat := if j = p then p + 1 else if j = p + 1 then p else j
theorem turn_other {p j : Nat} (h1 : j ≠ p) (h2 : j ≠ p + 1) : turn p j = j := by unfold turn; rw [if_neg h1, if_neg h2]
theorem listed_mono {listed : Array Bool} {i p : Nat} (h : listed.getD p true = true) : (listed.setIfInBounds i true).getD p true = true := by
  rw [Array.getD_eq_getD_getElem?] at h ⊢
  by_cases e : i = p
  · subst e
    by_cases hs : i < listed.size
    · simp [hs]
    · simp [hs]
  · rw [Array.getElem?_setIfInBounds_ne e]; exact h
theorem listed_keep {listed : Array Bool} {i p : Nat} (e : i ≠ p) : (listed.setIfInBounds i true).getD p true = listed.getD p true := by
  rw [Array.getD_eq_getD_getElem?, Array.getD_eq_getD_getElem?, Array.getElem?_setIfInBounds_ne e]
theorem Res.takes_det {R : Res} {v v' : AV} {u u' : St} (h : R.takes v u) (h' : R.takes v' u') : v = v' ∧ u = u' := by
  unfold Res.takes at h h'
  split at h
  · exact h.elim
  · exact ⟨h.1.trans h'.1.symm, h.2.trans h'.2.symm⟩
  · exact ⟨h.2.1.trans h'.2.1.symm, h.2.2.trans h'.2.2.symm⟩
theorem stp_det {E : Env} {ops : List Oper} {o : Oper} {s u u' : St} (h : Stp E ops o s u) (h' : Stp E ops o s u') : u = u' := by
  obtain ⟨_, h⟩ := h
  obtain ⟨_, h'⟩ := h'
  rcases h with ⟨hw, v, w, ht, rfl⟩ | ⟨hw, rfl⟩ <;> rcases h' with ⟨hw', v', w', ht', rfl⟩ | ⟨hw', rfl⟩
  · obtain ⟨rfl, rfl⟩ := Res.takes_det ht ht'
    rfl
  · rw [hw] at hw'; cases hw'
  · rw [hw] at hw'; cases hw'
  · rfl

section
variable {P : Program} {E : Env} {ops : Array Oper}
theorem lowU_turn (listed : Array Bool) (p : Nat) : (lowU listed p).map (turn p) = lowU listed p := by
  conv => rhs; rw [← List.map_id (lowU listed p)]
  refine List.map_congr_left fun j hj => ?_
  have := List.mem_range.1 (List.mem_filter.1 hj).1
  exact turn_other (by omega) (by omega)
theorem highU_turn (listed : Array Bool) (n p : Nat) : (highU listed n (p + 1)).map (turn p) = highU listed n (p + 1) := by
  conv => rhs; rw [← List.map_id (highU listed n (p + 1))]
  refine List.map_congr_left fun j hj => ?_
  have := List.mem_range'.1 (List.mem_filter.1 hj).1
  exact turn_other (by omega) (by omega)
theorem lowU_succ {listed : Array Bool} {p : Nat} (h : listed.getD p true = false) : lowU listed (p + 1) = lowU listed p ++ [p] := by
  unfold lowU
  rw [List.range_succ, List.filter_append, List.filter_cons_of_pos (by simp [h])]
  rfl
theorem any_soundB (hE : EnvOk P E) {p q : Nat} (hcom : backward ops.toList 0 = true ∧ ∀ i, i < ops.size → ∀ j, j < i → pairOk E ops.toList (closL ops.toList []) j i = true ∨ (j = p ∧ i = q)) {Q : Exit → Act → World → Prop} : ∀ (fuel : Nat) {listed : Array Bool} {s s' : St} {a : Act} {X : Cx}, listed.size = ops.size → (listed.getD p true = true ∨ listed.getD q true = true) → Down ops.toList listed →
    (unlisted listed ops.size).length ≤ fuel → GB E.G X → Rel s a X → Ex E ops.toList (unlisted listed ops.size) s s' → (∀ a' Y, Rel s' a' Y → Fr X Y → Q .normal a' Y.w) → wpAny P .any ops Q fuel listed a X.w := by
  obtain ⟨hback, hpair⟩ := hcom
  -- whatever is ready has not come; and if nothing is ready, all have come
  have ready : ∀ {listed : Array Bool} {i : Nat}, i ∈ Region.ready .any ops listed → i < ops.size ∧ listed.getD i true = false ∧ ∃ o, ops[i]? = some o ∧ ∀ e ∈ o.after.toList, Region.binds .any e = true → listed.getD e.on false = true := by
    intro listed i hi
    simp only [Region.ready, List.mem_filter, List.mem_range, Bool.and_eq_true, Bool.not_eq_true'] at hi
    obtain ⟨h1, h2, h3⟩ := hi
    refine ⟨h1, h2, ops[i], by simp [h1], fun e he hb => ?_⟩
    rw [Array.getElem?_eq_getElem h1] at h3
    simp only [Option.map_some, Option.getD_some, Array.all_eq_true_iff_forall_mem, Bool.or_eq_true, Bool.not_eq_true'] at h3
    rcases h3 e (by simpa using he) with h | h
    · rw [hb] at h; cases h
    · exact h
  have done : ∀ {listed : Array Bool}, listed.size = ops.size → Region.ready .any ops listed = [] → unlisted listed ops.size = [] := by
    intro listed hsz hr
    have hall : ∀ i, i < ops.size → listed.getD i true = true := by
      intro i
      induction i using Nat.strongRecOn with
      | _ i ih =>
        intro hi
        cases hl : listed.getD i true with
        | true => rfl
        | false =>
          exfalso
          have : i ∈ Region.ready .any ops listed := by
            simp only [Region.ready, List.mem_filter, List.mem_range, Bool.and_eq_true, Bool.not_eq_true']
            refine ⟨hi, hl, ?_⟩
            rw [Array.getElem?_eq_getElem hi]
            simp only [Option.map_some, Option.getD_some, Array.all_eq_true_iff_forall_mem, Bool.or_eq_true, Bool.not_eq_true']
            intro e he
            cases hb : Region.binds .any e with
            | false => exact .inl rfl
            | true =>
              right
              have hlt := edgesBack_mem (backward_at hback (show ops.toList[i]? = some ops[i] by simp [hi])) e (by simpa using he) hb
              have := ih e.on (by omega) (by omega)
              rw [Array.getD_eq_getD_getElem?] at this ⊢
              have hs : e.on < listed.size := by omega
              simp only [Array.getElem?_eq_getElem hs, Option.getD_some] at this ⊢
              exact this
          rw [hr] at this
          cases this
    simp only [unlisted, List.filter_eq_nil_iff, List.mem_range]
    intro i hi
    simp [hall i hi]
  intro fuel
  induction fuel with
  | zero =>
    intro listed s s' a X hsz hpq hd hl hgb r h hQ
    have hnil : unlisted listed ops.size = [] := List.eq_nil_of_length_eq_zero (by omega)
    rw [hnil] at h
    have : s = s' := h
    subst this
    refine ⟨?_, hQ a X r (Fr.refl X)⟩
    cases hr : Region.ready .any ops listed with
    | nil => rfl
    | cons i l =>
      obtain ⟨h1, h2, _⟩ := ready (hr ▸ List.mem_cons_self)
      have : i ∈ unlisted listed ops.size := List.mem_filter.2 ⟨List.mem_range.2 h1, by rw [h2]; rfl⟩
      rw [hnil] at this; cases this
  | succ fuel ih =>
    intro listed s s' a X hsz hpq hd hl hgb r h hQ
    refine ⟨fun hr => ?_, fun i hi => ?_⟩
    · rw [done hsz hr] at h
      have : s = s' := h
      subst this
      exact hQ a X r (Fr.refl X)
    · obtain ⟨h1, h2, o, ho, he⟩ := ready hi
      obtain ⟨pre, post, e1, e2, e3⟩ := unlisted_split hsz.symm h1 h2
      rw [e1] at h
      have hsz' : listed.size = ops.toList.length := by simpa using hsz
      have hpre : ∀ j ∈ pre, ∀ x y, ops.toList[j]? = some x → ops.toList[i]? = some y → apartT ops.toList x y = true ∧ clash (effH E x.op) (effH E y.op) = false := by
        intro j hj x y hx hy
        obtain ⟨k1, k2⟩ := e3 j hj
        have hp := (hpair i h1 j k1).resolve_right fun e => by
          obtain ⟨rfl, rfl⟩ := e
          rcases hpq with e | e
          · rw [e] at k2; cases k2
          · rw [e] at h2; cases h2
        simp only [pairOk, Bool.or_eq_true] at hp
        rcases hp with hp | hp
        · exfalso
          have := bit_listed hsz' hback hd i o j (by simpa using ho) he hp
          rw [Array.getD_eq_getD_getElem?] at this k2
          have hs : j < listed.size := by omega
          simp only [Array.getElem?_eq_getElem hs, Option.getD_some] at this k2
          rw [this] at k2; cases k2
        · rw [hx, hy] at hp
          simpa using hp
      obtain ⟨o', u, s'', ho', hs1, hs2, hev⟩ := ex_pull r.wf hpre h
      have : o' = o := by
        have h3 : ops.toList[i]? = some o := by simpa using ho
        rw [h3] at ho'; exact (Option.some.inj ho').symm
      subst this
      refine stp_sound hE hgb r ho hs1 fun a' Y hr hf => ?_
      refine ih (s := u) (s' := s'') (by simpa using hsz) (hpq.imp listed_mono listed_mono) ?_ ?_ (hf.gb hgb) hr (by rw [e2]; exact hs2) (fun a'' Z hr' hf' => hQ a'' Z (hev.symm.rel hr') (hf.trans hf'))
      · intro k q hq hk e hek hb
        by_cases hki : k = i
        · subst hki
          have : q = o' := by
            have h3 : ops.toList[k]? = some o' := by simpa using ho
            rw [h3] at hq; exact (Option.some.inj hq).symm
          subst this
          have := he e hek hb
          simp only [Array.getD_eq_getD_getElem?] at this ⊢
          by_cases hek' : e.on = k
          · rw [hek']; simp [hsz, h1]
          · rw [Array.getElem?_setIfInBounds_ne (fun h => hek' h.symm)]; exact this
        · have hk' : listed.getD k true = true := by
            simp only [Array.getD_eq_getD_getElem?] at hk ⊢
            rwa [Array.getElem?_setIfInBounds_ne (fun h => hki h.symm)] at hk
          have := hd k q hq hk' e hek hb
          simp only [Array.getD_eq_getD_getElem?] at this ⊢
          by_cases hek' : e.on = i
          · rw [hek']; simp [hsz, h1]
          · rw [Array.getElem?_setIfInBounds_ne (fun h => hek' h.symm)]; exact this
      · rw [e2]
        rw [e1] at hl
        simp at hl ⊢
        omega
theorem any_soundA (hE : EnvOk P E) {p : Nat} (hcom : backward ops.toList 0 = true ∧ ∀ i, i < ops.size → ∀ j, j < i → pairOk E ops.toList (closL ops.toList []) j i = true ∨ (j = p ∧ i = p + 1)) (hpn : p + 1 < ops.size) {Q : Exit → Act → World → Prop} : ∀ (fuel : Nat) {listed : Array Bool} {s s1 s2 : St} {a : Act} {X : Cx}, listed.size = ops.size → listed.getD p true = false → listed.getD (p + 1) true = false → Down ops.toList listed →
    (unlisted listed ops.size).length ≤ fuel → GB E.G X → Rel s a X → Ex E ops.toList (unlisted listed ops.size) s s1 → Ex E ops.toList ((unlisted listed ops.size).map (turn p)) s s2 → (∀ a' Y, Rel s1 a' Y → Fr X Y → Q .normal a' Y.w) → (∀ a' Y, Rel s2 a' Y → Fr X Y → Q .normal a' Y.w) → wpAny P .any ops Q fuel listed a X.w := by
  have hcom0 := hcom
  obtain ⟨hback, hpair⟩ := hcom
  -- whatever is ready has not come; and if nothing is ready, all have come
  have ready : ∀ {listed : Array Bool} {i : Nat}, i ∈ Region.ready .any ops listed → i < ops.size ∧ listed.getD i true = false ∧ ∃ o, ops[i]? = some o ∧ ∀ e ∈ o.after.toList, Region.binds .any e = true → listed.getD e.on false = true := by
    intro listed i hi
    simp only [Region.ready, List.mem_filter, List.mem_range, Bool.and_eq_true, Bool.not_eq_true'] at hi
    obtain ⟨h1, h2, h3⟩ := hi
    refine ⟨h1, h2, ops[i], by simp [h1], fun e he hb => ?_⟩
    rw [Array.getElem?_eq_getElem h1] at h3
    simp only [Option.map_some, Option.getD_some, Array.all_eq_true_iff_forall_mem, Bool.or_eq_true, Bool.not_eq_true'] at h3
    rcases h3 e (by simpa using he) with h | h
    · rw [hb] at h; cases h
    · exact h
  have done : ∀ {listed : Array Bool}, listed.size = ops.size → Region.ready .any ops listed = [] → unlisted listed ops.size = [] := by
    intro listed hsz hr
    have hall : ∀ i, i < ops.size → listed.getD i true = true := by
      intro i
      induction i using Nat.strongRecOn with
      | _ i ih =>
        intro hi
        cases hl : listed.getD i true with
        | true => rfl
        | false =>
          exfalso
          have : i ∈ Region.ready .any ops listed := by
            simp only [Region.ready, List.mem_filter, List.mem_range, Bool.and_eq_true, Bool.not_eq_true']
            refine ⟨hi, hl, ?_⟩
            rw [Array.getElem?_eq_getElem hi]
            simp only [Option.map_some, Option.getD_some, Array.all_eq_true_iff_forall_mem, Bool.or_eq_true, Bool.not_eq_true']
            intro e he
            cases hb : Region.binds .any e with
            | false => exact .inl rfl
            | true =>
              right
              have hlt := edgesBack_mem (backward_at hback (show ops.toList[i]? = some ops[i] by simp [hi])) e (by simpa using he) hb
              have := ih e.on (by omega) (by omega)
              rw [Array.getD_eq_getD_getElem?] at this ⊢
              have hs : e.on < listed.size := by omega
              simp only [Array.getElem?_eq_getElem hs, Option.getD_some] at this ⊢
              exact this
          rw [hr] at this
          cases this
    simp only [unlisted, List.filter_eq_nil_iff, List.mem_range]
    intro i hi
    simp [hall i hi]
  intro fuel
  induction fuel with
  | zero =>
    intro listed s s1 s2 a X hsz hp1 hp2 hd hl hgb r g1 g2 hQ1 hQ2
    exfalso
    have : p ∈ unlisted listed ops.size := List.mem_filter.2 ⟨List.mem_range.2 (by omega), by rw [hp1]; rfl⟩
    have hnil : unlisted listed ops.size = [] := List.eq_nil_of_length_eq_zero (by omega)
    rw [hnil] at this
    cases this
  | succ fuel ih =>
    intro listed s s1 s2 a X hsz hp1 hp2 hd hl hgb r g1 g2 hQ1 hQ2
    refine ⟨fun hr => ?_, fun i hi => ?_⟩
    · exfalso
      have : p ∈ unlisted listed ops.size := List.mem_filter.2 ⟨List.mem_range.2 (by omega), by rw [hp1]; rfl⟩
      rw [done hsz hr] at this
      cases this
    · obtain ⟨h1, h2, o, ho, he⟩ := ready hi
      obtain ⟨e1, e2, e3⟩ := unlisted_split' hsz.symm h1 h2
      have hsz' : listed.size = ops.toList.length := by simpa using hsz
      have hoL : ops.toList[i]? = some o := by simpa using ho
      have ok : ∀ j, j < i → listed.getD j true = false → ¬(j = p ∧ i = p + 1) → ∀ x y, ops.toList[j]? = some x → ops.toList[i]? = some y → apartT ops.toList x y = true ∧ clash (effH E x.op) (effH E y.op) = false := by
        intro j k1 k2 k3 x y hx hy
        have hp := (hpair i h1 j k1).resolve_right k3
        simp only [pairOk, Bool.or_eq_true] at hp
        rcases hp with hp | hp
        · exfalso
          have := bit_listed hsz' hback hd i o j (by simpa using ho) he hp
          rw [Array.getD_eq_getD_getElem?] at this k2
          have hs : j < listed.size := by omega
          simp only [Array.getElem?_eq_getElem hs, Option.getD_some] at this k2
          rw [this] at k2; cases k2
        · rw [hx, hy] at hp
          simpa using hp
      have hlen' : (unlisted (listed.setIfInBounds i true) ops.size).length ≤ fuel := by
        rw [e2]
        rw [e1] at hl
        simp at hl ⊢
        omega
      have hdown : Down ops.toList (listed.setIfInBounds i true) := by
        intro k q hq hk e hek hb
        by_cases hki : k = i
        · subst hki
          have : q = o := by
            rw [hoL] at hq; exact (Option.some.inj hq).symm
          subst this
          have := he e hek hb
          simp only [Array.getD_eq_getD_getElem?] at this ⊢
          by_cases hek' : e.on = k
          · rw [hek']; simp [hsz, h1]
          · rw [Array.getElem?_setIfInBounds_ne (fun h => hek' h.symm)]; exact this
        · have hk' : listed.getD k true = true := by
            simp only [Array.getD_eq_getD_getElem?] at hk ⊢
            rwa [Array.getElem?_setIfInBounds_ne (fun h => hki h.symm)] at hk
          have := hd k q hq hk' e hek hb
          simp only [Array.getD_eq_getD_getElem?] at this ⊢
          by_cases hek' : e.on = i
          · rw [hek']; simp [hsz, h1]
          · rw [Array.getElem?_setIfInBounds_ne (fun h => hek' h.symm)]; exact this
      by_cases ip : i = p
      · subst ip
        rw [e1] at g1
        obtain ⟨o', u, s'', ho', hs1, hs2, hev⟩ := ex_pull r.wf (fun j hj => ok j (e3 j hj).1 (e3 j hj).2 (by have := (e3 j hj).1; omega)) g1
        obtain rfl : o' = o := by rw [hoL] at ho'; exact (Option.some.inj ho').symm
        refine stp_sound hE hgb r ho hs1 fun a' Y hr hf => ?_
        refine any_soundB hE hcom0 fuel (s := u) (s' := s'') (by simpa using hsz) (.inl ?_) hdown hlen' (hf.gb hgb) hr (by rw [e2]; exact hs2) (fun a'' Z hr' hf' => hQ1 a'' Z (hev.symm.rel hr') (hf.trans hf'))
        rw [Array.getD_eq_getD_getElem?]; simp [hsz, h1]
      · by_cases iq : i = p + 1
        · subst iq
          rw [e1, List.map_append, List.map_cons, lowU_succ hp1, List.map_append, lowU_turn, highU_turn, show turn p (p + 1) = p from by unfold turn; rw [if_neg (by omega), if_pos rfl], show [p].map (turn p) = [p + 1] from by simp [turn], List.append_assoc] at g2
          obtain ⟨o', u, s'', ho', hs1, hs2, hev⟩ := ex_pull r.wf (fun j hj => ok j (by have := List.mem_range.1 (List.mem_filter.1 hj).1; omega) (by simpa using (List.mem_filter.1 hj).2) (by have := List.mem_range.1 (List.mem_filter.1 hj).1; omega)) g2
          obtain rfl : o' = o := by rw [hoL] at ho'; exact (Option.some.inj ho').symm
          refine stp_sound hE hgb r ho hs1 fun a' Y hr hf => ?_
          refine any_soundB hE hcom0 fuel (s := u) (s' := s'') (by simpa using hsz) (.inr ?_) hdown hlen' (hf.gb hgb) hr (by rw [e2, lowU_succ hp1, List.append_assoc]; exact hs2) (fun a'' Z hr' hf' => hQ2 a'' Z (hev.symm.rel hr') (hf.trans hf'))
          rw [Array.getD_eq_getD_getElem?]; simp [hsz, h1]
        · rw [e1] at g1 g2
          rw [List.map_append, List.map_cons, turn_other ip iq] at g2
          obtain ⟨o', u, s1'', ho', hs1, hx1, hev1⟩ := ex_pull r.wf (fun j hj => ok j (e3 j hj).1 (e3 j hj).2 (fun e => iq e.2)) g1
          obtain rfl : o' = o := by rw [hoL] at ho'; exact (Option.some.inj ho').symm
          obtain ⟨o'', u', s2'', ho'', hs2, hx2, hev2⟩ := ex_pull r.wf (fun j hj => by
            obtain ⟨j', hj', rfl⟩ := List.mem_map.1 hj
            obtain ⟨k1, k2⟩ := e3 j' hj'
            refine ok _ ?_ ?_ (fun e => iq e.2)
            · unfold turn
              repeat' split
              all_goals omega
            · unfold turn
              repeat' split
              · exact hp2
              · exact hp1
              · exact k2) g2
          obtain rfl : o'' = o' := by rw [hoL] at ho''; exact (Option.some.inj ho'').symm
          obtain rfl := stp_det hs1 hs2
          refine stp_sound hE hgb r ho hs1 fun a' Y hr hf => ?_
          refine ih (s := u) (s1 := s1'') (s2 := s2'') (by simpa using hsz) (by rw [listed_keep ip]; exact hp1) (by rw [listed_keep iq]; exact hp2) hdown hlen' (hf.gb hgb) hr (by rw [e2]; exact hx1) (by rw [e2, List.map_append]; exact hx2) (fun a'' Z hr' hf' => hQ1 a'' Z (hev1.symm.rel hr') (hf.trans hf')) (fun a'' Z hr' hf' => hQ2 a'' Z (hev2.symm.rel hr') (hf.trans hf'))
theorem any_sound (hE : EnvOk P E) (hc : commutes E ops.toList = true) {Q : Exit → Act → World → Prop} : ∀ (fuel : Nat) {listed : Array Bool} {s s' : St} {a : Act} {X : Cx}, listed.size = ops.size → Down ops.toList listed →
    (unlisted listed ops.size).length ≤ fuel → GB E.G X → Rel s a X → Ex E ops.toList (unlisted listed ops.size) s s' → (∀ a' Y, Rel s' a' Y → Fr X Y → Q .normal a' Y.w) → wpAny P .any ops Q fuel listed a X.w := by
  have hcom : backward ops.toList 0 = true ∧ ∀ i, i < ops.size → ∀ j, j < i → pairOk E ops.toList (closL ops.toList []) j i = true := by
    simp only [commutes, Bool.and_eq_true, List.all_eq_true, List.mem_range, Array.length_toList] at hc
    exact hc
  intro fuel listed s s' a X hsz
  refine any_soundB hE (p := ops.size) (q := ops.size) ⟨hcom.1, fun i hi j hj => .inl (hcom.2 i hi j hj)⟩ fuel hsz (.inl ?_)
  rw [Array.getD_eq_getD_getElem?, Array.getElem?_eq_none (by omega)]
  rfl
end

theorem swap_get : ∀ (p : Nat) (l : List Oper), p + 1 < l.length → ∀ i, (swapAt p l)[i]? = l[turn p i]?
  | 0, x :: y :: l, _, i => by
    match i with
    | 0 => rfl
    | 1 => rfl
    | i + 2 => rw [turn_other (by omega) (by omega)]; rfl
  | 0, [x], h, _ => by simp at h
  | p, [], h, _ => by simp at h
  | p + 1, x :: l, h, i => by
    match i with
    | 0 => rw [turn_other (by omega) (by omega)]; rfl
    | i + 1 =>
      have := swap_get p l (by simpa using h) i
      have e : turn (p + 1) (i + 1) = turn p i + 1 := by
        unfold turn
        repeat' split
        all_goals omega
      rw [e]
      exact this
theorem swap_len : ∀ (p : Nat) (l : List Oper), (swapAt p l).length = l.length
  | 0, x :: y :: l => rfl
  | 0, [x] => rfl
  | 0, [] => rfl
  | p + 1, [] => rfl
  | p + 1, x :: l => by show (swapAt p l).length + 1 = _; rw [swap_len p l]; rfl
theorem swap_map (p : Nat) (l : List Oper) (h : p + 1 < l.length) {n : Nat} (hn : n = l.length := by simp) : ((List.range n).map (turn p)).map (fun i => l[i]?) = (swapAt p l).map some := by
  refine List.ext_getElem? fun i => ?_
  rw [List.map_map, List.getElem?_map, List.getElem?_map, swap_get p l h]
  by_cases hi : i < n
  · rw [List.getElem?_range hi]
    have : turn p i < l.length := by
      unfold turn
      repeat' split
      all_goals omega
    simp [this]
  · rw [List.getElem?_eq_none (by simpa using hi), ← swap_get p l h, List.getElem?_eq_none (by rw [swap_len]; omega)]
    rfl

/-! ### Code -/
section
variable {P : Program} {E : Env}
theorem vc_sound (hE : EnvOk P E) (hm : P.follows .mixedOrders = true) : ∀ (c : Code) {s : St} {Q : Exit → St → Prop}, vc P E c s Q → SemC P E.G c s Q
  | .skip, s, Q, h => fun a X hgb r => wp_skip ⟨s, X, rfl, h, r, Fr.refl X⟩
  | .exit id, s, Q, h => fun a X hgb r => wp_exit ⟨s, X, rfl, h, r, Fr.refl X⟩
  | .ret, s, Q, h => fun a X hgb r => wp_ret ⟨s, X, rfl, h, r, Fr.refl X⟩
  | .loop b, s, Q, h => h.sem
  | .cond c x y, s, Q, h => by
    intro a X hgb r
    simp only [vc, evF_eq] at h
    split at h
    · rename_i v hv
      split at h
      · rename_i b
        have hr := ev_rep r hv
        generalize hcv : a.eval c = cv at hr
        cases hr
        refine wp_cond hcv ?_
        cases b with
        | true => exact vc_sound hE hm x (h.t rfl) a X hgb r
        | false => exact vc_sound hE hm y (h.f rfl) a X hgb r
      · exact h.elim
    · exact h.elim
  | .seq x y, s, Q, h => by
    intro a X hgb r
    refine wp_seq (wp_mono (vc_sound hE hm x (show vc P E x s _ from h) a X hgb r) ?_)
    rintro e a' w' ⟨s', Y, rfl, hq, hr, hf⟩
    cases e with
    | normal =>
      refine wp_mono (vc_sound hE hm y hq a' Y (hf.gb hgb) hr) ?_
      rintro e a'' w'' ⟨s'', Z, rfl, hq', hr', hf'⟩
      exact ⟨s'', Z, rfl, hq', hr', hf.trans hf'⟩
    | _ => exact ⟨s', Y, rfl, hq, hr, hf⟩
  | .block id b, s, Q, h => by
    intro a X hgb r
    refine wp_block (wp_mono (vc_sound hE hm b (show vc P E b s _ from h) a X hgb r) ?_)
    rintro e a' w' ⟨s', Y, rfl, hq, hr, hf⟩
    cases e with
    | exit id' =>
      simp only [Exit.inBlock]
      cases hb : Nat.beq id' id with
      | true =>
        simp only [hb] at hq
        rw [if_pos (Nat.eq_of_beq_eq_true hb)]
        exact ⟨s', Y, rfl, hq, hr, hf⟩
      | false =>
        simp only [hb] at hq
        rw [if_neg (Nat.ne_of_beq_eq_false hb)]
        exact ⟨s', Y, rfl, hq, hr, hf⟩
    | _ => exact ⟨s', Y, rfl, hq, hr, hf⟩
  | .region id ops draw, s, Q, h => by
    intro a X hgb r
    have fin : ∀ {K : St → Prop}, opsVC E ops.toList ops.toList s [] K → ∃ s', Ex E ops.toList (List.range ops.size) s s' ∧ K s' := by
      intro K hK
      obtain ⟨s', h1, h2⟩ := opsVC_ex (k := 0) (by simp) (fun t b hb => by cases hb) hK
      refine ⟨s', ?_, h2⟩
      rw [List.range_eq_range']
      simpa using h1
    cases draw with
    | false =>
      obtain ⟨s', h1, h2⟩ := fin (show opsVC E ops.toList ops.toList s [] (Q .normal) from h)
      refine wp_region (ex_text hE hgb r h1 fun a' Y hr hf => ⟨s', Y, rfl, h2, hr, hf⟩)
    | true =>
      have hr' := (Same.drew X).rel r
      have hun : unlisted (Array.replicate ops.size false) ops.size = List.range ops.size := by
        simp only [unlisted]
        rw [List.filter_eq_self]
        intro i hi
        have := List.mem_range.1 hi
        simp [Array.getD_eq_getD_getElem?, this]
      have hdn : Down ops.toList (Array.replicate ops.size false) := by
        intro i o hi hl
        exfalso
        have := (List.getElem?_eq_some_iff.1 hi).1
        simp only [Array.length_toList] at this
        simp [Array.getD_eq_getD_getElem?, this] at hl
      simp only [vc] at h
      split at h
      · have hc := h.t trivial
        obtain ⟨s', h1, h2⟩ := fin (h.f trivial)
        refine wp_region_any hm ?_
        exact any_sound hE hc ops.size (X := X.drew) (by simp) hdn (by rw [hun]; simp) ((Same.drew X).fr.gb hgb) hr' (by rw [hun]; exact h1) (fun a' Y hr hf => ⟨s', Y, rfl, h2, hr, (Same.drew X).fr.trans hf⟩)
      · rename_i p hpp
        have hc := h.t trivial
        have h := h.f trivial
        obtain ⟨s1, g1, k1⟩ := fin (h.t trivial)
        simp only [commutesX, Bool.and_eq_true, List.all_eq_true, List.mem_range, Array.length_toList, Bool.or_eq_true, Nat.blt_eq, Nat.beq_eq_true_eq] at hc
        obtain ⟨⟨c1, c2⟩, c3⟩ := hc
        obtain ⟨s2, g2, k2⟩ := opsVC_exI (is := (List.range ops.size).map (turn p)) (swap_map p ops.toList c2) (fun t b hb => by cases hb) (h.f trivial)
        refine wp_region_any hm ?_
        exact any_soundA hE (p := p) ⟨c1, fun i hi j hj => (c3 i hi j hj).imp (fun x => x) fun e => ⟨Nat.eq_of_beq_eq_true e.1, Nat.eq_of_beq_eq_true e.2⟩⟩ c2 ops.size (X := X.drew) (by simp) (by simp [Array.getD_eq_getD_getElem?, show p < ops.size by omega]) (by simp [Array.getD_eq_getD_getElem?, c2]) hdn (by rw [hun]; simp) ((Same.drew X).fr.gb hgb) hr' (by rw [hun]; exact g1) (by rw [hun]; exact g2) (fun a' Y hr hf => ⟨s1, Y, rfl, k1, hr, (Same.drew X).fr.trans hf⟩) (fun a' Y hr hf => ⟨s2, Y, rfl, k2, hr, (Same.drew X).fr.trans hf⟩)
  | .rangeFunc .., s, Q, h => h.elim
  | .scope _, s, Q, h => h.elim
  | .label _, s, Q, h => h.elim
  | .goto _, s, Q, h => h.elim
  | .refuse _, s, Q, h => h.elim

/-! ### Functions -/
theorem ttOf_get : ∀ (l : List AV) (t : TT) (i j : Nat), (ttOf t i l).get j = if i ≤ j ∧ j < i + l.length then l.getD (j - i) .any else t.get j
  | [], t, i, j => by simp [ttOf]; omega
  | a :: l, t, i, j => by
    simp only [ttOf]
    rw [ttOf_get l (t.set i a) (i + 1) j]
    by_cases h : j = i
    · subst h
      rw [if_neg (by omega), if_pos (by simp), TT.set_same]
      simp
    · by_cases h2 : i + 1 ≤ j ∧ j < i + 1 + l.length
      · rw [if_pos h2, if_pos (by simp; omega)]
        rw [show j - i = (j - (i + 1)) + 1 from by omega]
        simp
      · rw [if_neg h2, if_neg (by simp; omega), TT.set_ne _ _ h]
theorem enter_rel {w : World} {L : Nat → Option Nat} {args : List AV} {cargs : List Value} (h : RepL (Cx.bare w L) true args cargs) (n : Nat) :
    Rel (St.enter n args) { tmps := cargs.toArray ++ Array.replicate (n - cargs.toArray.size) undef, defers := [] } (Cx.bare w L) where
  size := by
    have := h.length
    simp [St.enter]; omega
  dfr := rfl
  tmps := fun t => by
    show Rep _ false ((ttOf .leaf 0 args).get t) _
    rw [ttOf_get]
    by_cases ht : t < args.length
    · rw [if_pos (by omega)]
      obtain ⟨v, h1, h2⟩ := h.get (i := t) (a := args[t]) (by simp [ht])
      have e1 : args.getD (t - 0) .any = args[t] := by simp [List.getD_eq_getElem?_getD, ht]
      have hlt : t < cargs.length := by rw [← h.length]; exact ht
      have e2 : (cargs.toArray ++ Array.replicate (n - cargs.toArray.size) undef).getD t undef = v := by
        rw [Array.getD_eq_getD_getElem?, Array.getElem?_append_left (by simpa using hlt)]
        simp [h1]
      rw [e1]
      show Rep _ false _ ((cargs.toArray ++ Array.replicate (n - cargs.toArray.size) undef).getD t undef)
      rw [e2]
      exact h2.of_pure
    · rw [if_neg (by omega), TT.get_leaf]
      exact .any ..
  heap := fun i blk hi => by cases hi
  ow := fun i blk b hi => by cases hi
  mu := fun i b hi => by cases hi
  kap := fun t => rfl
  kn := fun t len h => by cases h
  tok := fun t b cap sz h => by cases h

theorem resA1_sound (hΓ : GOk P E.Γ) {s : St} {a : Act} {X : Cx} (r : Rel s a X) {x : ResultVar} {v : AV} (h : resA1 E s x = some v) :
    ∃ cv, (match x with | .tmp t => pure (a.tmps.getD t undef) | .cell b t => do loadVar t (← asAddr (a.tmps.getD b undef)) : Go.Sem Value).run P X.w = .ok cv X.w ∧ Rep X false v cv := by
  cases x with
  | tmp t => simp only [resA1, Option.some.injEq] at h; subst h; exact ⟨_, rfl, r.tmps t⟩
  | cell b t =>
    obtain ⟨cv, h1, h2⟩ := loadA_sound (P := P) hΓ r (r.tmps b) h
    refine ⟨cv, ?_, h2⟩
    have hp : ∃ ad, a.tmps.getD b undef = .pointer (some ad) := by
      have hr := r.tmps b
      simp only [resA1, loadA] at h
      split at h
      · cases h
      · split at h
        · rename_i hg; rw [hg] at hr; generalize a.tmps.getD b undef = q at hr; cases hr; exact ⟨_, rfl⟩
        · rename_i hg; rw [hg] at hr; generalize a.tmps.getD b undef = q at hr; cases hr; exact ⟨_, rfl⟩
        · cases h
    obtain ⟨ad, had⟩ := hp
    show (do let ad ← asAddr (a.tmps.getD b undef); loadVar t ad : Go.Sem Value).run P X.w = _
    rw [had] at h1 ⊢
    simp only [Instr.loadAt, Instr.sureAddr, Sem.run_bind, Sem.run_pure, Result.andThen_ok] at h1
    simpa [asAddr] using h1
theorem resAL_sound (hΓ : GOk P E.Γ) {s : St} {a : Act} {X : Cx} (r : Rel s a X) : ∀ {l : List ResultVar} {vs : List AV}, resAL E s l = some vs →
    ∃ cvs, (l.mapM fun | .tmp t => pure (a.tmps.getD t undef) | .cell b t => do loadVar t (← asAddr (a.tmps.getD b undef)) : Go.Sem (List Value)).run P X.w = .ok cvs X.w ∧ RepL X false vs cvs
  | [], vs, h => by simp only [resAL, Option.some.injEq] at h; subst h; exact ⟨[], rfl, .nil⟩
  | x :: l, vs, h => by
    simp only [resAL] at h
    split at h
    · rename_i v vs' h1 h2
      injection h with h; subst h
      obtain ⟨cv, k1, k2⟩ := resA1_sound hΓ r h1
      obtain ⟨cvs, k3, k4⟩ := resAL_sound hΓ r h2
      refine ⟨cv :: cvs, ?_, .cons k2 k4⟩
      simp only [List.mapM_cons, Sem.run_bind]
      rw [k1]
      simp only [Result.andThen_ok]
      rw [k3]
      rfl
    · cases h
theorem results_sound (hΓ : GOk P E.Γ) {fn : Func} {s : St} {a : Act} {X : Cx} (r : Rel s a X) {v : AV} (h : resA E s fn.results.toList = some v) : ∃ cv, (results fn a.tmps).run P X.w = .ok cv X.w ∧ Rep (Cx.bare X.w X.still) true v cv := by
  unfold resA at h
  have main : ∀ vs, resAL E s fn.results.toList = some vs → ∃ cvs, (results fn a.tmps).run P X.w = .ok (if h : cvs.toArray.size = 1 then cvs.toArray[0] else .tuple cvs.toArray) X.w ∧ RepL X false vs cvs := by
    intro vs hvs
    obtain ⟨cvs, h1, h2⟩ := resAL_sound (P := P) hΓ r hvs
    refine ⟨cvs, ?_, h2⟩
    unfold results
    rw [Array.mapM_eq_mapM_toList]
    simp only [Sem.run_bind, Sem.run_map]
    erw [h1]
    rfl
  split at h
  · rename_i v0 hvs
    obtain ⟨cvs, h1, h2⟩ := main _ hvs
    cases h2 with | cons h2 hn =>
    cases hn
    refine ⟨_, h1, ?_⟩
    split at h
    · rename_i hp; injection h with h; subst h; exact Rep.pmono (still_ext X) rfl (pureOf_rep hp h2)
    · exact frz_rep r _ h h2
  · rename_i vs hne hvs
    obtain ⟨cvs, h1, h2⟩ := main _ hvs
    have hlen : ¬ cvs.toArray.size = 1 := by
      intro hl
      have := h2.length
      simp only [List.size_toArray] at hl
      rw [hl] at this
      match vs, this with
      | [x], _ => exact hne x rfl
    rw [dif_neg hlen] at h1
    refine ⟨_, h1, ?_⟩
    split at h
    · rename_i hp; injection h with h; subst h; exact Rep.pmono (still_ext X) rfl (pureOf_rep hp (.tup h2))
    · exact frz_rep r _ h (.tup h2)
  · cases h

/-- A FUNCTION's CONTRACT. -/
theorem pc_of (hE : EnvOk P E) (hm : P.follows .mixedOrders = true) {f : FuncId} {fn : Func} (hf : P.funcs[f]? = some fn) {args : List AV} {r : AV} {R : AV → Prop} (hR : ∀ v, R v → v = r) (h : fnVC P E fn args R) : PC P E.G f args r := by
  intro w L cargs hG hargs
  unfold fnVC at h
  split at h
  · exact h.elim
  · rename_i c hb
    refine calls_of_wp hf hb ?_
    have hrel := enter_rel hargs fn.ntmps
    refine wp_mono (vc_sound hE hm c h _ (Cx.bare w L) (.bare hG L) hrel) ?_
    rintro e a' w' ⟨s', Y, rfl, hq, hr, hfr⟩
    have fin : (match resA E s' fn.results.toList with | some r' => R r' | none => False) → a'.defers = [] ∧ ∃ v, (results fn a'.tmps).run P Y.w = .ok v Y.w ∧ ∃ cv L', Ending.returned v = .returned cv ∧ Rep (Cx.bare Y.w L') true r cv ∧ RowKit.Below w.heap.size w Y.w ∧ ∀ b, b < w.heap.size → L' b = L b := by
      intro hres
      split at hres
      · rename_i r' hr'
        have hres : r' = r := hR _ hres
        subst hres
        obtain ⟨cv, h1, h2⟩ := results_sound hE.g hr hr'
        refine ⟨hr.dfr, cv, h1, cv, Y.still, rfl, h2, ?_, fun b hb => ?_⟩
        rotate_left
        · obtain ⟨_, k2, k3⟩ := hfr.blk b hb rfl
          unfold Cx.still
          rw [k2]; exact k3
        exact ⟨hfr.os, hfr.tape, hfr.output, hfr.size, fun k hk => (hfr.blk k hk rfl).1⟩
      · exact hres.elim
    cases e with
    | normal => exact fin hq
    | ret => exact fin hq
    | _ => exact hq.elim

theorem HRel.enter {m : St} {X : Cx} (h : HRel m X) {args : List AV} {cargs : List Value} (ha : RepL X false args cargs) (n : Nat) :
    Rel (m.enterH n args) { tmps := cargs.toArray ++ Array.replicate (n - cargs.toArray.size) undef, defers := [] } X where
  size := by
    have := ha.length
    simp [St.enterH]; omega
  dfr := rfl
  tmps := fun t => by
    show Rep _ false ((ttOf .leaf 0 args).get t) _
    rw [ttOf_get]
    by_cases ht : t < args.length
    · rw [if_pos (by omega)]
      obtain ⟨v, h1, h2⟩ := ha.get (i := t) (a := args[t]) (by simp [ht])
      have e1 : args.getD (t - 0) .any = args[t] := by simp [List.getD_eq_getElem?_getD, ht]
      have hlt : t < cargs.length := by rw [← ha.length]; exact ht
      have e2 : (cargs.toArray ++ Array.replicate (n - cargs.toArray.size) undef).getD t undef = v := by
        rw [Array.getD_eq_getD_getElem?, Array.getElem?_append_left (by simpa using hlt)]
        simp [h1]
      rw [e1]
      show Rep _ false _ ((cargs.toArray ++ Array.replicate (n - cargs.toArray.size) undef).getD t undef)
      rw [e2]
      exact h2
    · rw [if_neg (by omega), TT.get_leaf]
      exact .any ..
  heap := h.heap
  ow := h.ow
  mu := h.mu
  kap := h.kap
  kn := h.kn
  tok := h.tok

theorem resultsH_sound (hΓ : GOk P E.Γ) {fn : Func} {s : St} {a : Act} {X : Cx} (r : Rel s a X) {v : AV} (h : resH E s fn.results.toList = some v) : ∃ cv, (results fn a.tmps).run P X.w = .ok cv X.w ∧ Rep X false v cv := by
  unfold resH at h
  have main : ∀ vs, resAL E s fn.results.toList = some vs → ∃ cvs, (results fn a.tmps).run P X.w = .ok (if h : cvs.toArray.size = 1 then cvs.toArray[0] else .tuple cvs.toArray) X.w ∧ RepL X false vs cvs := by
    intro vs hvs
    obtain ⟨cvs, h1, h2⟩ := resAL_sound (P := P) hΓ r hvs
    refine ⟨cvs, ?_, h2⟩
    unfold results
    rw [Array.mapM_eq_mapM_toList]
    simp only [Sem.run_bind, Sem.run_map]
    erw [h1]
    rfl
  split at h
  · rename_i v0 hvs
    obtain ⟨cvs, h1, h2⟩ := main _ hvs
    injection h with h; subst h
    cases h2 with | cons h2 hn => cases hn; exact ⟨_, h1, h2⟩
  · rename_i vs hne hvs
    obtain ⟨cvs, h1, h2⟩ := main _ hvs
    injection h with h; subst h
    have hlen : ¬ cvs.toArray.size = 1 := by
      intro hl
      have := h2.length
      simp only [List.size_toArray] at hl
      rw [hl] at this
      match vs, this with
      | [x], _ => exact hne x rfl
    rw [dif_neg hlen] at h1
    exact ⟨_, h1, .tup h2⟩
  · cases h

/-- The contract of a function that turns memory, from what must be shown of it. -/
theorem hc_gen (hE : EnvOk P E) (hm : P.follows .mixedOrders = true) {f : FuncId} {fn : Func} (hf : P.funcs[f]? = some fn) {args : List AV} {m : St} {R : AV → St → Prop} (h : fnVCH P E fn args m R) {X : Cx} {cargs : List Value} (hgb : GB E.G X) (hr : HRel m X) (ha : RepL X false args cargs) :
    Calls P f cargs.toArray X.w fun e w' => ∃ cv Y v s', e = .returned cv ∧ Y.w = w' ∧ R v s'.mem ∧ Rep Y false v cv ∧ (∃ a', Rel s' a' Y) ∧ Fr X Y := by
  unfold fnVCH at h
  split at h
  · exact h.elim
  · rename_i c hb
    refine calls_of_wp hf hb ?_
    refine wp_mono (vc_sound hE hm c h _ X hgb (hr.enter ha fn.ntmps)) ?_
    rintro e a' w' ⟨s', Y, rfl, hq, hr', hfr⟩
    have fin : (match resH E s' fn.results.toList with | some r' => R r' s'.mem | none => False) → a'.defers = [] ∧ ∃ v, (results fn a'.tmps).run P Y.w = .ok v Y.w ∧ ∃ cv Z v2 s2, Ending.returned v = .returned cv ∧ Z.w = Y.w ∧ R v2 s2.mem ∧ Rep Z false v2 cv ∧ (∃ a', Rel s2 a' Z) ∧ Fr X Z := by
      intro hres
      split at hres
      · rename_i r' hr2
        obtain ⟨cv, h1, h2⟩ := resultsH_sound hE.g hr' hr2
        exact ⟨hr'.dfr, cv, h1, cv, Y, r', s', rfl, rfl, hres, h2, ⟨a', hr'⟩, hfr⟩
      · exact hres.elim
    cases e with
    | normal => exact fin hq
    | ret => exact fin hq
    | _ => exact hq.elim
end
end Go.Ab
