/- The symbolic evaluator: regions, third part: what has been shown of one order holds of each; code; functions. -/
import Derived.Test.YtejepcnoflahkaaGreatDoorAbHeap
namespace Go.Ab
set_option linter.unusedVariables false
set_option linter.unusedSimpArgs false

/-! ### Steps -/
def wants (ops : List Oper) (s : St) (o : Oper) : Option Bool :=
  match o.guard with
  | none => some true
  | some (j, w) => match dstAt ops j with
    | none => none
    | some t => match s.t.get t with
      | .bool b => some (b == w)
      | .tup _ => some false
      | _ => none
def Stp (E : Env) (ops : List Oper) (o : Oper) (s s' : St) : Prop :=
  dstOk s o.dst = true ∧ ((wants ops s o = some true ∧ ∃ v u, (opG E o.op s).takes v u ∧ s' = u.put o.dst v) ∨ (wants ops s o = some false ∧ s' = s.put o.dst (.tup [])))
def Ex (E : Env) (ops : List Oper) : List Nat → St → St → Prop
  | [], s, s' => s = s'
  | i :: l, s, s' => ∃ o u, ops[i]? = some o ∧ Stp E ops o s u ∧ Ex E ops l u s'
def DOk (s : St) (D : List (Nat × Bool)) : Prop := ∀ t b, look D t = some b → s.t.get t = .bool b

section
variable {E : Env} {s : St}
theorem put_n (s : St) (d : Option Nat) (v : AV) : (s.put d v).n = s.n := by cases d <;> rfl
theorem put_h (s : St) (d : Option Nat) (v : AV) : (s.put d v).h = s.h := by cases d <;> rfl
theorem put_nx (s : St) (d : Option Nat) (v : AV) : (s.put d v).nx = s.nx := by cases d <;> rfl
theorem put_get (s : St) (d : Option Nat) (v : AV) (t : Nat) : (s.put d v).t.get t = if d = some t then v else s.t.get t := by
  cases d with
  | none => simp; rfl
  | some d =>
    by_cases h : d = t
    · subst h; simp; exact TT.set_same ..
    · rw [if_neg (by simpa using h)]; exact TT.set_ne _ _ (fun e => h e.symm)
theorem look_forget {D : List (Nat × Bool)} {d : Option Nat} {t : Nat} {b : Bool} (h : look (forget D d) t = some b) : d ≠ some t ∧ look D t = some b := by
  induction D with
  | nil => cases d <;> simp [forget, look] at h
  | cons p D ih =>
    obtain ⟨u, c⟩ := p
    cases d with
    | none => exact ⟨by simp, by simpa [forget] using h⟩
    | some d =>
      simp only [forget] at h
      cases hb : Nat.beq u d with
      | true =>
        simp only [hb] at h
        obtain ⟨h1, h2⟩ := ih h
        refine ⟨h1, ?_⟩
        have hud := Nat.eq_of_beq_eq_true hb
        have hut : Nat.beq u t = false := beq_false (by rw [hud]; simpa using h1)
        simp only [look, hut]; exact h2
      | false =>
        simp only [hb, look] at h
        cases hut : Nat.beq u t with
        | true =>
          simp only [hut] at h
          have e1 := Nat.eq_of_beq_eq_true hut
          have e2 := Nat.ne_of_beq_eq_false hb
          exact ⟨by rw [← e1]; simpa using fun e => e2 e.symm, by simp only [look, hut]; exact h⟩
        | false =>
          simp only [hut] at h
          obtain ⟨h1, h2⟩ := ih h
          exact ⟨h1, by simp only [look, hut]; exact h2⟩
theorem DOk.put {D : List (Nat × Bool)} (h : DOk s D) {s' : St} (ht : s'.t = s.t) (d : Option Nat) (v : AV) : DOk (s'.put d v) (forget D d) := by
  intro t b hb
  obtain ⟨h1, h2⟩ := look_forget hb
  rw [put_get, if_neg h1, ht]
  exact h t b h2
theorem DOk.cons {D : List (Nat × Bool)} (h : DOk s D) {t : Nat} {b : Bool} (ht : s.t.get t = .bool b) : DOk s ((t, b) :: D) := by
  intro u c hu
  simp only [look] at hu
  cases hb : Nat.beq t u with
  | true => simp only [hb, Option.some.injEq] at hu; subst hu; rw [← Nat.eq_of_beq_eq_true hb]; exact ht
  | false => simp only [hb] at hu; exact h u c hu
theorem branch_cases {D : List (Nat × Bool)} {t : Nat} {p : Bool → List (Nat × Bool) → Prop} {sk : Prop} (hD : DOk s D) (h : branch s D t p sk) : (∃ b D', s.t.get t = .bool b ∧ DOk s D' ∧ p b D') ∨ ((∃ vs, s.t.get t = .tup vs) ∧ sk) := by
  unfold branch at h
  split at h
  · rename_i b hb
    exact .inl ⟨b, D, hD t b hb, hD, h⟩
  · split at h
    · rename_i b hb
      cases b with
      | true => exact .inl ⟨true, _, hb, hD.cons hb, h.t rfl⟩
      | false => exact .inl ⟨false, _, hb, hD.cons hb, h.f rfl⟩
    · rename_i vs hb; exact .inr ⟨⟨vs, hb⟩, h⟩
    · exact h.elim
theorem Res.all_takes {R : Res} {K : AV → St → Prop} (h : R.all K) : ∃ v s', R.takes v s' ∧ K v s' := by
  cases R with
  | fail => exact h.elim
  | ok v s => simp only [Res.all, force_eq, forceS_eq] at h; exact ⟨v, s, ⟨rfl, rfl⟩, h⟩
  | need C v s =>
    have h1 := h.t trivial
    have h2 := h.f trivial
    simp only [force_eq, forceS_eq] at h2
    exact ⟨v, s, ⟨h1, rfl, rfl⟩, h2⟩
theorem Res.sat_takes {R : Res} {G : AV → St → Prop} (h : R.sat G) {v : AV} {s' : St} (ht : R.takes v s') : G v s' := by
  cases R with
  | fail => exact ht.elim
  | ok w u => obtain ⟨rfl, rfl⟩ := ht; exact h
  | need C w u => obtain ⟨hc, rfl, rfl⟩ := ht; exact h hc
theorem runVC_ex {o : Oper} {D : List (Nat × Bool)} {K : St → List (Nat × Bool) → Prop} (hD : DOk s D) (h : runVC E o s D K) :
    dstOk s o.dst = true ∧ ∃ v u, (opG E o.op s).takes v u ∧ ∃ D', DOk (u.put o.dst v) D' ∧ K (u.put o.dst v) D' := by
  unfold runVC at h
  split at h
  · exact h.elim
  · rename_i hd
    refine ⟨hd, ?_⟩
    split at h
    · rename_i c x y hop
      rcases branch_cases hD h with ⟨b, D', hb, hD', h⟩ | ⟨_, h⟩
      · obtain ⟨v, u, h1, h2⟩ := Res.all_takes h
        rw [St.putK_eq] at h2
        refine ⟨v, u, ?_, _, ?_, h2⟩
        · rw [hop]
          show (opF E (.pick (.tmp c) x y) s).takes v u
          simp only [opF, evF_eq, ev, hb]
          cases b <;> exact h1
        · refine hD'.put ?_ _ _
          rw [evR_eq] at h1
          have := Res.sat_takes (sat_of_const _ s) h1
          rw [this]
      · exact h.elim
    · obtain ⟨v, u, h1, h2⟩ := Res.all_takes h
      rw [St.putK_eq] at h2
      exact ⟨v, u, h1, _, hD.put (Res.sat_takes opG_t h1).1 _ _, h2⟩
theorem opsVC_ex {ops : List Oper} {K : St → Prop} : ∀ {l : List Oper} {k : Nat} {s : St} {D : List (Nat × Bool)}, l = ops.drop k → DOk s D → opsVC E ops l s D K → ∃ s', Ex E ops (List.range' k l.length) s s' ∧ K s'
  | [], k, s, D, _, _, h => ⟨s, rfl, h⟩
  | o :: l, k, s, D, hl, hD, h => by
    have hk : ops[k]? = some o := by
      have : (ops.drop k)[0]? = some o := by rw [← hl]; rfl
      simpa using this
    have hl' : l = ops.drop (k + 1) := by
      have : (ops.drop k).tail = l := by rw [← hl]; rfl
      rw [← this, List.tail_drop]
    have skip : ∀ {D' : List (Nat × Bool)}, DOk s D' → wants ops s o = some false → skipVC o s D' (fun s' D'' => opsVC E ops l s' D'' K) → ∃ s', Ex E ops (List.range' k (o :: l).length) s s' ∧ K s' := by
      intro D' hD' hw hs
      unfold skipVC at hs
      split at hs
      · exact hs.elim
      · rename_i hd
        rw [St.putK_eq] at hs
        obtain ⟨s', h1, h2⟩ := opsVC_ex hl' (hD'.put rfl _ _) hs
        refine ⟨s', ?_, h2⟩
        rw [List.length_cons, List.range'_succ]
        exact ⟨o, _, hk, ⟨hd, .inr ⟨hw, rfl⟩⟩, h1⟩
    have run : ∀ {D' : List (Nat × Bool)}, DOk s D' → wants ops s o = some true → runVC E o s D' (fun s' D'' => opsVC E ops l s' D'' K) → ∃ s', Ex E ops (List.range' k (o :: l).length) s s' ∧ K s' := by
      intro D' hD' hw hs
      obtain ⟨hd, v, u, h1, D2, hD2, h2⟩ := runVC_ex hD' hs
      obtain ⟨s', h3, h4⟩ := opsVC_ex hl' hD2 h2
      refine ⟨s', ?_, h4⟩
      rw [List.length_cons, List.range'_succ]
      exact ⟨o, _, hk, ⟨hd, .inl ⟨hw, v, u, h1, rfl⟩⟩, h3⟩
    simp only [opsVC] at h
    split at h
    · rename_i hg
      exact run hD (by simp [wants, hg]) h
    · rename_i j want hg
      split at h
      · exact h.elim
      · rename_i t ht
        rcases branch_cases hD h with ⟨b, D', hb, hD', h⟩ | ⟨⟨vs, hvs⟩, h⟩
        · have hw : wants ops s o = some (b == want) := by simp [wants, hg, ht, hb]
          split at h
          · exact run hD' hw h
          · exact run hD' hw h
          · rename_i h1 h2
            refine skip hD' ?_ h
            rw [hw]
            cases b <;> cases want <;> first | rfl | exact absurd rfl (h1 rfl) | exact absurd rfl (h2 rfl)
        · exact skip hD (by simp [wants, hg, ht, hvs]) h
theorem opsVC_exI {ops : List Oper} {K : St → Prop} : ∀ {l : List Oper} {is : List Nat} {s : St} {D : List (Nat × Bool)}, is.map (fun i => ops[i]?) = l.map some → DOk s D → opsVC E ops l s D K → ∃ s', Ex E ops is s s' ∧ K s'
  | [], [], s, D, _, _, h => ⟨s, rfl, h⟩
  | [], k :: is, s, D, hl, _, h => by simp at hl
  | o :: l, [], s, D, hl, hD, h => by simp at hl
  | o :: l, k :: is, s, D, hl, hD, h => by
    simp only [List.map_cons, List.cons.injEq] at hl
    have hk : ops[k]? = some o := hl.1
    have hl' := hl.2
    have skip : ∀ {D' : List (Nat × Bool)}, DOk s D' → wants ops s o = some false → skipVC o s D' (fun s' D'' => opsVC E ops l s' D'' K) → ∃ s', Ex E ops (k :: is) s s' ∧ K s' := by
      intro D' hD' hw hs
      unfold skipVC at hs
      split at hs
      · exact hs.elim
      · rename_i hd
        rw [St.putK_eq] at hs
        obtain ⟨s', h1, h2⟩ := opsVC_exI hl' (hD'.put rfl _ _) hs
        refine ⟨s', ?_, h2⟩
        exact ⟨o, _, hk, ⟨hd, .inr ⟨hw, rfl⟩⟩, h1⟩
    have run : ∀ {D' : List (Nat × Bool)}, DOk s D' → wants ops s o = some true → runVC E o s D' (fun s' D'' => opsVC E ops l s' D'' K) → ∃ s', Ex E ops (k :: is) s s' ∧ K s' := by
      intro D' hD' hw hs
      obtain ⟨hd, v, u, h1, D2, hD2, h2⟩ := runVC_ex hD' hs
      obtain ⟨s', h3, h4⟩ := opsVC_exI hl' hD2 h2
      refine ⟨s', ?_, h4⟩
      exact ⟨o, _, hk, ⟨hd, .inl ⟨hw, v, u, h1, rfl⟩⟩, h3⟩
    simp only [opsVC] at h
    split at h
    · rename_i hg
      exact run hD (by simp [wants, hg]) h
    · rename_i j want hg
      split at h
      · exact h.elim
      · rename_i t ht
        rcases branch_cases hD h with ⟨b, D', hb, hD', h⟩ | ⟨⟨vs, hvs⟩, h⟩
        · have hw : wants ops s o = some (b == want) := by simp [wants, hg, ht, hb]
          split at h
          · exact run hD' hw h
          · exact run hD' hw h
          · rename_i h1 h2
            refine skip hD' ?_ h
            rw [hw]
            cases b <;> cases want <;> first | rfl | exact absurd rfl (h1 rfl) | exact absurd rfl (h2 rfl)
        · exact skip hD (by simp [wants, hg, ht, hvs]) h
end

/-! ### A step, of the machine -/
section
variable {P : Program} {E : Env} {s s' : St} {a : Act} {X : Cx} {ops : Array Oper}
theorem wants_yield (r : Rel s a X) {o : Oper} {b : Bool} (h : wants ops.toList s o = some b) : Region.wanted o (yielded ops a.tmps) = b := by
  unfold wants at h
  unfold Region.wanted
  split at h
  · rename_i hg; simp only [Option.some.injEq] at h; subst h; rw [hg]
  · rename_i j w hg
    rw [hg]
    simp only
    split at h
    · cases h
    · rename_i t ht
      have hdst : (ops[j]?).bind (·.dst) = some t := by
        unfold dstAt at ht
        simp only [Array.getElem?_toList] at ht
        cases hj : ops[j]? with
        | none => rw [hj] at ht; cases ht
        | some o' => rw [hj] at ht; simpa using ht
      have hr := r.tmps t
      split at h
      · rename_i bb hbb
        simp only [Option.some.injEq] at h; subst h
        rw [hbb] at hr
        generalize hcv : a.tmps.getD t undef = cv at hr
        cases hr
        have : a.tmps[t]? = some (.bool bb) := by
          rw [Array.getD_eq_getD_getElem?] at hcv
          cases hx : a.tmps[t]? with
          | none => rw [hx] at hcv; simp [undef] at hcv
          | some z => rw [hx] at hcv; simp at hcv; rw [hcv]
        simp [yielded, hdst, this]
      · rename_i vs hvs
        simp only [Option.some.injEq] at h; subst h
        rw [hvs] at hr
        generalize hcv : a.tmps.getD t undef = cv at hr
        cases hr
        have : yielded ops a.tmps j = none := by
          simp only [yielded, hdst, Option.bind_some]
          rw [Array.getD_eq_getD_getElem?] at hcv
          cases hx : a.tmps[t]? with
          | none => rfl
          | some z => rw [hx] at hcv; simp at hcv; rw [hcv]
        simp [this]
      · cases h
theorem stp_sound (hE : EnvOk P E) (hgb : GB E.G X) (r : Rel s a X) {i : Nat} {o : Oper} (hi : ops[i]? = some o) (h : Stp E ops.toList o s s') {Q : Exit → Act → World → Prop} {K : Act → World → Prop}
    (hK : ∀ a' Y, Rel s' a' Y → Fr X Y → K a' Y.w) : wpOp P ops Q i K a X.w := by
  unfold wpOp
  rw [hi]
  simp only
  obtain ⟨hd, h | ⟨hw, rfl⟩⟩ := h
  · obtain ⟨hw, v, u, ht, rfl⟩ := h
    rw [wants_yield r hw, if_pos rfl]
    refine .inl ?_
    have hg := Res.sat_takes (opG_sound hE hgb r o) ht
    have htn := (Res.sat_takes opG_t ht).2
    refine hg K Q fun cv Y hr hv hf => hK _ Y (hr.put hv ?_) hf
    have : dstOk u o.dst = dstOk s o.dst := by cases hdd : o.dst <;> simp [dstOk, htn]
    rw [this]; exact hd
  · rw [wants_yield r hw, if_neg (by simp)]
    exact hK _ X (r.put (.tup (vs := []) .nil) hd) (Fr.refl X)
theorem ex_text (hE : EnvOk P E) {Q : Exit → Act → World → Prop} : ∀ {l : List Nat} {s s' : St} {a : Act} {X : Cx}, GB E.G X → Rel s a X → Ex E ops.toList l s s' → (∀ a' Y, Rel s' a' Y → Fr X Y → Q .normal a' Y.w) → wpOps P ops Q l a X.w
  | [], s, s', a, X, hgb, r, h, hQ => by
    have : s = s' := h
    subst this
    exact hQ a X r (Fr.refl X)
  | i :: l, s, s', a, X, hgb, r, h, hQ => by
    obtain ⟨o, u, hi, hs, hl⟩ := h
    rw [wpOps_cons]
    exact stp_sound hE hgb r (by simpa using hi) hs fun a' Y hr hf => ex_text hE (hf.gb hgb) hr hl fun a'' Z hr' hf' => hQ a'' Z hr' (hf.trans hf')
end
end Go.Ab
