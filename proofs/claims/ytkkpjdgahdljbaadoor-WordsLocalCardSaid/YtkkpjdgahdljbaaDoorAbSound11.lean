/- The symbolic evaluator: regions that draw their order: operations may be turned about. -/
import Derived.Test.YtkkpjdgahdljbaaDoorAbSound10
namespace Go.Ab
set_option linter.unusedVariables false
set_option linter.unusedSimpArgs false

/-- Two states that read the same. -/
structure Eqv (s u : St) : Prop where
  n : s.n = u.n
  t : ∀ t, s.t.get t = u.t.get t
  h : s.h = u.h
  nx : s.nx = u.nx
  k : s.k = u.k
  nk : s.nk = u.nk
theorem Eqv.refl (s : St) : Eqv s s := ⟨rfl, fun _ => rfl, rfl, rfl, rfl, rfl⟩
theorem Eqv.symm {s u : St} (h : Eqv s u) : Eqv u s := ⟨h.n.symm, fun t => (h.t t).symm, h.h.symm, h.nx.symm, h.k.symm, h.nk.symm⟩
theorem Eqv.trans {s u v : St} (h : Eqv s u) (k : Eqv u v) : Eqv s v := ⟨h.n.trans k.n, fun t => (h.t t).trans (k.t t), h.h.trans k.h, h.nx.trans k.nx, h.k.trans k.k, h.nk.trans k.nk⟩
theorem Eqv.eq {s u : St} (h : Eqv s u) : u = s.withT u.t := by
  obtain ⟨h1, h2, h3, h4, h5, h6⟩ := h
  cases s; cases u
  simp only at h1 h3 h4 h5 h6
  subst h1; subst h3; subst h4; subst h5; subst h6
  rfl
theorem Eqv.ev {s u : St} (h : Eqv s u) (x : Operand) : ev u x = ev s x := by
  cases x <;> simp only [Ab.ev, h.t]
theorem Eqv.rel {s u : St} (h : Eqv s u) {a : Act} {X : Cx} (r : Rel s a X) : Rel u a X := by
  rw [h.eq]
  exact { size := r.size, dfr := r.dfr, tmps := fun t => by rw [show (s.withT u.t).t.get t = s.t.get t from (h.t t).symm]; exact r.tmps t, heap := r.heap, mu := r.mu, kap := r.kap, kn := r.kn, tok := r.tok, ow := r.ow }
theorem Eqv.put {s u : St} (h : Eqv s u) (d : Option Nat) (v : AV) : Eqv (s.put d v) (u.put d v) := by
  refine ⟨?_, fun t => ?_, ?_, ?_, ?_, ?_⟩
  · rw [put_n, put_n, h.n]
  · rw [put_get, put_get, h.t]
  all_goals cases d <;> simp [St.put, h.h, h.nx, h.k, h.nk]
theorem Res.takes_map {R : Res} {f : St → St} {v : AV} {s' : St} (h : R.takes v s') : (R.mapS f).takes v (f s') := by
  cases R with
  | fail => exact h
  | ok w u => exact ⟨h.1, by rw [h.2]⟩
  | need C w u => exact ⟨h.1, h.2.1, by rw [h.2.2]⟩
theorem opG_eqv {E : Env} {op : Op} {s u : St} (he : Eqv s u) {v : AV} {s' : St} (h : (opG E op s).takes v s') : ∃ u', (opG E op u).takes v u' ∧ Eqv s' u' := by
  have ht := Res.sat_takes opG_t h
  refine ⟨s'.withT u.t, ?_, ?_⟩
  · rw [he.eq, opG_tau (fun x _ => by rw [← he.eq]; exact he.ev x)]
    exact Res.takes_map h
  · exact ⟨rfl, fun t => by rw [ht.1]; exact he.t t, rfl, rfl, rfl, rfl⟩
theorem wants_eqv {ops : List Oper} {s u : St} (he : Eqv s u) (o : Oper) : wants ops u o = wants ops s o := by
  unfold wants
  split
  · rfl
  · split
    · rfl
    · rw [he.t]
theorem stp_eqv {E : Env} {ops : List Oper} {o : Oper} {s u s' : St} (he : Eqv s u) (h : Stp E ops o s s') : ∃ u', Stp E ops o u u' ∧ Eqv s' u' := by
  obtain ⟨hd, h | ⟨hw, rfl⟩⟩ := h
  · obtain ⟨hw, v, w, ht, rfl⟩ := h
    obtain ⟨w', h1, h2⟩ := opG_eqv he ht
    exact ⟨_, ⟨by cases hdd : o.dst <;> simp_all [dstOk, he.n], .inl ⟨by rw [wants_eqv he]; exact hw, v, w', h1, rfl⟩⟩, h2.put _ _⟩
  · exact ⟨_, ⟨by cases hdd : o.dst <;> simp_all [dstOk, he.n], .inr ⟨by rw [wants_eqv he]; exact hw, rfl⟩⟩, he.put _ _⟩
theorem ex_eqv {E : Env} {ops : List Oper} : ∀ {l : List Nat} {s u s' : St}, Eqv s u → Ex E ops l s s' → ∃ u', Ex E ops l u u' ∧ Eqv s' u'
  | [], s, u, s', he, h => by
    have : s = s' := h
    subst this
    exact ⟨u, rfl, he⟩
  | i :: l, s, u, s', he, h => by
    obtain ⟨o, w, hi, hs, hl⟩ := h
    obtain ⟨w', h1, h2⟩ := stp_eqv he hs
    obtain ⟨u', h3, h4⟩ := ex_eqv h2 hl
    exact ⟨u', ⟨o, w', hi, h1, h3⟩, h4⟩

/-- Blocks that are not there yet are not there. -/
def Wf (s : St) : Prop := ∀ i, s.nx ≤ i → s.h i = none
theorem Rel.wf {s : St} {a : Act} {X : Cx} (r : Rel s a X) : Wf s := by
  intro i hi
  cases h : s.h i with
  | none => rfl
  | some b => have := (r.heap i b h).1; omega
theorem Wf.put {s : St} (h : Wf s) (d : Option Nat) (v : AV) : Wf (s.put d v) := by cases d <;> exact h
theorem Wf.new {s : St} (h : Wf s) (b : Blk) : Wf (s.new b) := by
  intro i hi
  have hi' : s.nx + 1 ≤ i := hi
  exact (upd_ne s.h _ (show i ≠ s.nx by omega)).trans (h i (by omega))
theorem Wf.setB {s : St} (h : Wf s) {i : Nat} {old : Blk} (hi : s.h i = some old) (b : Blk) : Wf (s.setB i b) := by
  intro j hj
  have hj' : s.nx ≤ j := hj
  have : j ≠ i := fun e => by subst e; rw [h j hj'] at hi; cases hi
  exact (upd_ne s.h _ this).trans (h j hj')
theorem opF_wf {E : Env} {op : Op} {s : St} (hw : Wf s) : (opF E op s).sat (fun _ s' => Wf s') := by
  by_cases h : effect E op ≤ 1
  · exact Res.sat_imp (opF_keep h) fun v s' e => by subst e; exact hw
  · cases op <;> first | (simp [effect] at h; done) | skip
    case alloc T =>
      simp only [opF, allocA]
      cases E.Γ T with
      | none => trivial
      | some ti => simp only [forceL_eq]; cases E.bt T <;> exact hw.new _
    case box T x =>
      refine evF_sat' fun v => ?_
      cases v <;> first | trivial | exact hw.new _
    case store T x y =>
      refine evF_sat' fun v => evF_sat' fun u => ?_
      unfold storeA
      repeat' split
      all_goals first | trivial | (rw [forceL_eq]; exact hw.setB ‹_› _) | (rw [force_eq]; exact fun _ => hw.setB ‹_› _)
    case convert S D x => exact evF_sat' fun v => Res.sat_imp (convA_eff2 (by
      have h : ¬ effC E S D ≤ 1 := h
      unfold effC at h ⊢
      revert h
      cases E.hp <;> simp only [] <;> first | (intro h; omega) | skip
      split <;> intro h <;> first | rfl | omega)) fun _ _ ⟨b, e⟩ => by subst e; exact hw.new _
    case makeSlice T l c =>
      have hp : E.hp = true := by cases hp : E.hp with | true => rfl | false => simp [effect, hp] at h
      simp only [opF]
      exact evF_sat' fun v => evF_sat' fun u => Res.sat_imp (makeSliceA_eff2 hp) fun _ _ ⟨b, e⟩ => by subst e; exact hw.new _
    case makeMap T r => cases r <;> first | trivial | exact hw.new _
    case mapUpdate T m k x =>
      refine evF_sat' fun v => evF_sat' fun u => evF_sat' fun w => ?_
      unfold mapSetA
      repeat' split
      all_goals first | trivial | exact hw.setB ‹_› _
    case insert T m k x =>
      refine evF_sat' fun v => evF_sat' fun u => evF_sat' fun w => ?_
      unfold mapSetA
      repeat' split
      all_goals first | trivial | exact hw.setB ‹_› _
    case call c =>
      obtain ⟨callee, cargs, argTypes⟩ := c
      cases callee <;> first | (simp [effect] at h; done) | (rename_i f; cases f <;> simp [effect] at h; done) | skip
      rename_i b
      cases b <;> first | (simp [effect] at h; done) | skip
      refine evsF_sat' fun args => ?_
      match args, argTypes[0]?, argTypes[1]? with
      | [x, y], some T, some xT =>
        show (appendA E s T xT x y).sat _
        have hB : ∀ x, (appendB E s T xT x y).sat fun _ s' => Wf s' := fun x => by
          unfold appendB
          repeat' split
          all_goals first | trivial | exact fun _ => hw
        have hk : ∀ i b, Wf (s.grow i b) := fun i b j hj => by
          have hj' : s.nx + 1 ≤ j := hj
          show upd (upd s.h i none) s.nx (some b) j = none
          rw [upd_ne _ _ (show j ≠ s.nx by omega)]
          by_cases h : j = i
          · subst h; exact upd_same ..
          · exact (upd_ne s.h _ h).trans (hw j (by omega))
        have hG : ∀ x, (appendG E s T xT x y).sat fun _ s' => Wf s' := fun x => by
          unfold appendG
          repeat' split
          all_goals first | trivial | exact fun _ => hw.new _ | exact fun _ => hk _ _
        unfold appendA
        split
        · split
          · exact hB _
          · exact hG _
        · split
          · exact hB _
          · exact hG _
      | [], _, _ => trivial
      | [_], _, _ => trivial
      | _ :: _ :: _ :: _, _, _ => trivial
      | [_, _], none, _ => trivial
      | [_, _], some _, none => trivial
    case mapEntry => trivial
    case entryStore => trivial
theorem opG_wf {E : Env} {op : Op} {s : St} (hw : Wf s) : (opG E op s).sat (fun _ s' => Wf s') := by
  cases hh : isH E op with
  | false => rw [opG_f hh]; exact opF_wf hw
  | true =>
    rw [opG_h hh]
    have key : ∀ m : St, Wf (s.onto m) := fun m i hi => by
      show (match Nat.blt i m.nx with | true => m.h i | false => none) = none
      have hi : m.nx ≤ i := hi
      have : Nat.blt i m.nx = false := by
        cases hb : Nat.blt i m.nx with
        | false => rfl
        | true => rw [Nat.blt_eq] at hb; omega
      rw [this]
    rcases isH_call hh with ⟨g, xs, ts, rfl, hg⟩ | ⟨t, xs, ts, rfl⟩
    · refine evsF_sat' fun args => ?_
      cases E.H g args s.mem <;> first | trivial | exact key _ | exact fun _ => key _
    · simp only [hcallA]
      refine evF_sat' fun v => evsF_sat' fun args => ?_
      split
      · rename_i g first cap
        split
        · cases E.H g (first ++ args ++ cap) s.mem <;> first | trivial | exact key _ | exact fun _ => key _
        · exact Res.sat_imp (sat_const (callS_st s s rfl)) fun v s' e => by subst e; exact hw
      · trivial
theorem Stp.wf {E : Env} {ops : List Oper} {o : Oper} {s s' : St} (hw : Wf s) (h : Stp E ops o s s') : Wf s' := by
  obtain ⟨hd, ⟨_, v, u, ht, rfl⟩ | ⟨_, rfl⟩⟩ := h
  · exact (Res.sat_takes (opG_wf hw) ht).put _ _
  · exact hw.put _ _

/-! ### Two operations that stand apart -/
theorem usesT_mem {l : List Operand} {t : Nat} (h : usesT l t = false) : Operand.tmp t ∉ l := by
  induction l with
  | nil => simp
  | cons x l ih =>
    cases x with
    | tmp u =>
      simp only [usesT] at h
      cases hb : Nat.beq u t with
      | true => rw [hb] at h; cases h
      | false =>
        rw [hb] at h
        have := Nat.ne_of_beq_eq_false hb
        simp only [List.mem_cons, Operand.tmp.injEq, not_or]
        exact ⟨fun e => this e.symm, ih h⟩
    | _ => simp only [usesT] at h; simp only [List.mem_cons, not_or]; exact ⟨by simp, ih h⟩
theorem looks_ev {ops : List Oper} {o : Oper} {t : Nat} (h : looksT ops o t = false) : (∀ (s : St) (v : AV), ∀ x ∈ o.op.operands.toList, ev (s.put (some t) v) x = ev s x) ∧ ∀ (s : St) (v : AV), wants ops (s.put (some t) v) o = wants ops s o := by
  unfold looksT at h
  split at h
  · cases h
  · rename_i hu
    refine ⟨fun s v x hx => ?_, fun s v => ?_⟩
    · cases x with
      | tmp u =>
        have : t ≠ u := fun e => usesT_mem hu (e ▸ hx)
        simp only [ev, put_get]
        rw [if_neg (by simpa using this)]
      | _ => rfl
    · unfold wants
      split at h
      · rename_i hg; rw [hg]
      · rename_i j w hg
        rw [hg]
        simp only
        split at h
        · rename_i u hu
          rw [hu]
          simp only [put_get]
          rw [if_neg (by simp; exact fun e => Nat.ne_of_beq_eq_false h e.symm)]
        · rename_i hu; rw [hu]

section
variable {E : Env} {ops : List Oper} {s : St}
/-- A step, told by what it puts where and what it does to memory. -/
theorem stp_withT {o : Oper} {s s' : St} {d : Option Nat} {v : AV} (h : Stp E ops o s s') (hl : ∀ t, d = some t → looksT ops o t = false) (hne : ∀ t, d = some t → o.dst ≠ some t) :
    ∃ u, Stp E ops o (s.put d v) u ∧ Eqv (s'.put d v) u := by
  cases d with
  | none => exact ⟨s', h, Eqv.refl _⟩
  | some t =>
    obtain ⟨h1, h2⟩ := looks_ev (hl t rfl)
    have hdd := hne t rfl
    have comm : ∀ (w : St) (x : AV), Eqv ((w.put o.dst x).put (some t) v) ((w.put (some t) v).put o.dst x) := by
      intro w x
      refine ⟨?_, fun q => ?_, ?_, ?_, ?_, ?_⟩
      · simp only [put_n]
      · simp only [put_get]
        by_cases e1 : some t = some q
        · rw [if_pos e1, if_neg (by rw [← e1]; exact hdd), if_pos e1]
        · rw [if_neg e1, if_neg e1]
      all_goals cases o.dst <;> rfl
    obtain ⟨hd, ⟨hw, x, u, ht, rfl⟩ | ⟨hw, rfl⟩⟩ := h
    · refine ⟨(u.put (some t) v).put o.dst x, ⟨by cases hq : o.dst <;> simp_all [dstOk, put_n], .inl ⟨by rw [h2]; exact hw, x, _, ?_, rfl⟩⟩, comm u x⟩
      have htt := Res.sat_takes opG_t ht
      have e : s.put (some t) v = s.withT (s.t.set t v) := rfl
      have e' : u.put (some t) v = u.withT (s.t.set t v) := by
        show (⟨u.n, u.t.set t v, u.h, u.nx, u.k, u.nk⟩ : St) = _
        rw [htt.1]; rfl
      rw [e, opG_tau (fun y hy => by rw [← e]; exact h1 s v y hy), e']
      exact Res.takes_map ht
    · exact ⟨_, ⟨by cases hq : o.dst <;> simp_all [dstOk, put_n], .inr ⟨by rw [h2]; exact hw, rfl⟩⟩, comm s _⟩

theorem withM_self (s : St) : s.withM s = s := rfl
theorem put_withM (s : St) (d : Option Nat) (v : AV) (u : St) : (s.put d v).withM u = (s.withM u).put d v := by cases d <;> rfl
/-- upon another memory: what asks none -/
theorem stp_mem {o : Oper} {s s' : St} (h0 : effH E o.op = 0) (h : Stp E ops o s s') (u : St) : Stp E ops o (s.withM u) (s'.withM u) := by
  obtain ⟨hd, ⟨hw, x, w, ht, rfl⟩ | ⟨hw, rfl⟩⟩ := h
  · have hk := Res.sat_takes (opG_keep (by omega)) ht
    subst hk
    refine ⟨hd, .inl ⟨hw, x, w.withM u, ?_, put_withM ..⟩⟩
    rw [opG_mem h0]
    exact Res.takes_map (f := fun _ => w.withM u) ht
  · exact ⟨hd, .inr ⟨hw, put_withM ..⟩⟩
/-- what a step puts into its slot -/
theorem stp_put {o : Oper} {s s' : St} (h : Stp E ops o s s') : ∃ v u, s' = u.put o.dst v ∧ u.t = s.t ∧ u.n = s.n ∧ (effH E o.op ≤ 1 → u = s) := by
  obtain ⟨hd, ⟨hw, x, w, ht, rfl⟩ | ⟨hw, rfl⟩⟩ := h
  · have := Res.sat_takes opG_t ht
    exact ⟨x, w, rfl, this.1, this.2, fun h => Res.sat_takes (opG_keep h) ht⟩
  · exact ⟨_, s, rfl, rfl, rfl, fun _ => rfl⟩
theorem eff2_new {o : Oper} {s u : St} {v : AV} (h2 : effH E o.op = 2) (h : (opG E o.op s).takes v u) : ∃ b, u = s.new b := by
  have hh : isH E o.op = false := by
    cases hh : isH E o.op with
    | false => rfl
    | true => rw [effH_h hh] at h2; omega
  rw [effH_f hh] at h2
  rw [opG_f hh] at h
  obtain ⟨dst, op, type, pos, after, guard⟩ := o
  have hs : (opF E op s).sat fun _ s' => ∃ b, s' = s.new b := by
    cases op <;> first | (simp [effect] at h2; done) | skip
    case alloc T =>
      simp only [opF, allocA]
      cases E.Γ T with
      | none => trivial
      | some ti => simp only [forceL_eq]; cases E.bt T <;> exact ⟨_, rfl⟩
    case box T x =>
      refine evF_sat' fun v => ?_
      cases v <;> first | trivial | exact ⟨_, rfl⟩
    case makeMap T r => cases r <;> first | trivial | exact ⟨_, rfl⟩
    case convert S D x => exact evF_sat' fun v => convA_eff2 h2
    case makeSlice T l c =>
      have hp : E.hp = true := by cases hp : E.hp with | true => rfl | false => simp [effect, hp] at h2
      simp only [opF]
      exact evF_sat' fun v => evF_sat' fun u => makeSliceA_eff2 hp
    case call c =>
      obtain ⟨callee, cargs, argTypes⟩ := c
      cases callee with
      | value f => cases f <;> simp [effect] at h2
      | invoke x m => simp [effect] at h2
      | builtin b => cases b <;> simp [effect] at h2
  exact Res.sat_takes hs h

/-- THE EXCHANGE: x ahead of y, that do not touch one another: y ahead of x. -/
theorem stp_swap {x y : Oper} {s s1 s2 : St} (hw : Wf s) (hap : apartT ops x y = true) (hcl : clash (effH E x.op) (effH E y.op) = false) (h1 : Stp E ops x s s1) (h2 : Stp E ops y s1 s2) :
    ∃ u1 u2, Stp E ops y s u1 ∧ Stp E ops x u1 u2 ∧ Eqv s2 u2 := by
  simp only [apartT, Bool.and_eq_true] at hap
  obtain ⟨hx, hy⟩ := hap
  have hx1 : ∀ t, x.dst = some t → looksT ops y t = false := by
    intro t ht; rw [ht] at hx; simp only [Bool.and_eq_true, Bool.not_eq_true'] at hx; exact hx.1
  have hx2 : ∀ t, x.dst = some t → y.dst ≠ some t := by
    intro t ht e; rw [ht, e] at hx; simp at hx
  have hy1 : ∀ t, y.dst = some t → looksT ops x t = false := by
    intro t ht; rw [ht] at hy; simpa using hy
  have hy2 : ∀ t, y.dst = some t → x.dst ≠ some t := fun t ht e => hx2 t e ht
  obtain ⟨v, w1, rfl, ht1, hn1, hk1⟩ := stp_put h1
  -- the memory behind x is w1's; y upon s's slots and that memory
  have back : ∀ {w w' : St}, Stp E ops y (w.put x.dst v) w' → w.t = s.t → w.n = s.n → ∃ u, Stp E ops y w u ∧ Eqv (u.put x.dst v) w' := by
    intro w w' h ht hn
    cases hxd : x.dst with
    | none => rw [hxd] at h; exact ⟨w', h, Eqv.refl _⟩
    | some t =>
      rw [hxd] at h
      -- take the slot back
      have hq := stp_withT (d := some t) (v := w.t.get t) h (fun q e => by injection e with e; subst e; exact hx1 t hxd) (fun q e => by injection e with e; subst e; exact hx2 t hxd)
      obtain ⟨u, hu1, hu2⟩ := hq
      have e1 : Eqv ((w.put (some t) v).put (some t) (w.t.get t)) w := by
        refine ⟨rfl, fun q => ?_, rfl, rfl, rfl, rfl⟩
        simp only [put_get]
        by_cases e : some t = some q
        · rw [if_pos e]; injection e with e; rw [e]
        · rw [if_neg e, if_neg e]
      obtain ⟨u', hu3, hu4⟩ := stp_eqv e1 hu1
      refine ⟨u', hu3, ?_⟩
      have e2 : Eqv (w'.put (some t) (w.t.get t)) u' := hu2.trans hu4
      refine (e2.symm.put (some t) v).trans ?_
      -- y has left x's slot alone
      obtain ⟨vy, wy, rfl, hty, hny, _⟩ := stp_put h
      refine ⟨by simp only [put_n], fun q => ?_, ?_, ?_, ?_, ?_⟩
      · simp only [put_get]
        by_cases e : some t = some q
        · rw [if_pos e, if_neg (by rw [← e]; exact hx2 t hxd), hty, put_get, if_pos e]
        · rw [if_neg e, if_neg e]
      all_goals cases y.dst <;> rfl
  by_cases hy0 : effH E y.op = 0
  · -- y asks no memory
    obtain ⟨u, hu1, hu2⟩ := back h2 ht1 hn1
    have hu3 := stp_mem hy0 hu1 s
    have e : w1.withM s = s := by
      cases s; cases w1
      simp only at ht1 hn1
      subst ht1; subst hn1; rfl
    rw [e] at hu3
    obtain ⟨vy, wy, hue, hty, hny, hky⟩ := stp_put hu1
    have hwy := hky (by omega)
    subst hwy
    -- now x behind y
    obtain ⟨z, hz1, hz2⟩ := stp_withT (d := y.dst) (v := vy) h1 hy1 hy2
    have e2 : u.withM s = s.put y.dst vy := by rw [hue, put_withM, e]
    refine ⟨u.withM s, z, hu3, by rw [e2]; exact hz1, ?_⟩
    refine hu2.symm.trans (Eqv.trans ?_ hz2)
    rw [hue]
    refine ⟨by simp only [put_n], fun q => ?_, ?_, ?_, ?_, ?_⟩
    · simp only [put_get]
      by_cases e1 : x.dst = some q
      · rw [if_pos e1, if_neg (fun e3 => hx2 q e1 e3), if_pos e1]
      · rw [if_neg e1, if_neg e1]
    all_goals cases y.dst <;> cases x.dst <;> rfl
  · by_cases hx0 : effH E x.op ≤ 1
    · -- x turns no memory
      have hw1 := hk1 hx0
      subst hw1
      obtain ⟨u, hu1, hu2⟩ := back h2 rfl rfl
      obtain ⟨vy, wy, hue, hty, hny, hky⟩ := stp_put hu1
      have key : Stp E ops x wy (wy.put x.dst v) := by
        by_cases hx00 : effH E x.op = 0
        · have := stp_mem hx00 h1 wy
          have e : w1.withM wy = wy := by
            cases w1; cases wy
            simp only at hty hny
            subst hty; subst hny; rfl
          rw [put_withM, e] at this
          exact this
        · -- x asks; y asks, too, or makes a block
          have hx1' : effH E x.op = 1 := by omega
          have hy12 : effH E y.op = 1 ∨ effH E y.op = 2 := by
            rw [hx1'] at hcl
            generalize effH E y.op = ey at hcl hy0
            match ey with
            | 0 => exact absurd rfl hy0
            | 1 => exact .inl rfl
            | 2 => exact .inr rfl
            | n + 3 => simp [clash] at hcl
          rcases hy12 with hy1' | hy2'
          · rw [hky (by omega)]; exact h1
          · have hnew : wy = w1 ∨ ∃ b, wy = w1.new b := by
              obtain ⟨hd, ⟨hwt, q, w, ht, he⟩ | ⟨hwt, he⟩⟩ := hu1
              · obtain ⟨b, hb⟩ := eff2_new hy2' ht
                refine .inr ⟨b, ?_⟩
                have hm : w.h = wy.h ∧ w.nx = wy.nx ∧ w.k = wy.k ∧ w.nk = wy.nk := by
                  have := hue.symm.trans he
                  have h1 := congrArg St.h this
                  have h2 := congrArg St.nx this
                  have h3 := congrArg St.k this
                  have h4 := congrArg St.nk this
                  cases hyd : y.dst <;> rw [hyd] at h1 h2 h3 h4 <;> exact ⟨h1.symm, h2.symm, h3.symm, h4.symm⟩
                obtain ⟨m1, m2, m3, m4⟩ := hm
                have htw := Res.sat_takes opG_t ht
                subst hb
                cases wy
                simp only at m1 m2 m3 m4 hty hny
                subst m1; subst m2; subst m3; subst m4; subst hty; subst hny
                rfl
              · left
                have := hue.symm.trans he
                have g1 := congrArg St.h this
                have g2 := congrArg St.nx this
                have g3 := congrArg St.k this
                have g4 := congrArg St.nk this
                cases wy; cases w1
                simp only at hty hny
                subst hty; subst hny
                cases hyd : y.dst <;> rw [hyd] at g1 g2 g3 g4 <;> (simp only [St.put] at g1 g2 g3 g4; subst g1; subst g2; subst g3; subst g4; rfl)
            rcases hnew with rfl | ⟨b, rfl⟩
            · exact h1
            · obtain ⟨hd, ⟨hwt, q, w, ht, he⟩ | ⟨hwt, he⟩⟩ := h1
              · have hkw := Res.sat_takes (opG_keep (by omega)) ht
                subst hkw
                have hnb := opG_new (E := E) hx0 (hw _ (Nat.le_refl _)) b ht
                refine ⟨by cases hq : x.dst <;> simp_all [dstOk, St.new], .inl ⟨by rw [← hwt]; rfl, q, _, hnb, ?_⟩⟩
                -- the same value
                cases hxd : x.dst with
                | none => rfl
                | some t =>
                  rw [hxd] at he
                  have := congrArg (fun z : St => z.t.get t) he
                  simp only [put_get, if_true] at this
                  rw [this]
              · refine ⟨by cases hq : x.dst <;> simp_all [dstOk, St.new], .inr ⟨by rw [← hwt]; rfl, ?_⟩⟩
                cases hxd : x.dst with
                | none => rfl
                | some t =>
                  rw [hxd] at he
                  have := congrArg (fun z : St => z.t.get t) he
                  simp only [put_get, if_true] at this
                  rw [this]
      obtain ⟨z, hz1, hz2⟩ := stp_withT (d := y.dst) (v := vy) key hy1 hy2
      refine ⟨u, z, hu1, by rw [hue]; exact hz1, ?_⟩
      refine hu2.symm.trans (Eqv.trans ?_ hz2)
      rw [hue]
      refine ⟨by simp only [put_n], fun q => ?_, ?_, ?_, ?_, ?_⟩
      · simp only [put_get]
        by_cases e1 : x.dst = some q
        · rw [if_pos e1, if_neg (fun e3 => hx2 q e1 e3), if_pos e1]
        · rw [if_neg e1, if_neg e1]
      all_goals cases y.dst <;> cases x.dst <;> rfl
    · exfalso
      revert hcl
      generalize effH E x.op = ex at hx0
      generalize effH E y.op = ey at hy0
      intro hcl
      match ex, ey, hx0, hy0, hcl with
      | 0, _, h, _, _ => exact h (by omega)
      | 1, _, h, _, _ => exact h (by omega)
      | n + 2, 0, _, h, _ => exact h rfl
      | 2, 1, _, _, h => simp [clash] at h
      | 2, m + 2, _, _, h => simp [clash] at h
      | n + 3, m + 1, _, _, h => simp [clash] at h
end
end Go.Ab
