/- The symbolic evaluator: regions that draw their order: operations may be turned about. -/
import Derived.Test.YtejepcnoflahkaaGreatDoorAbSound10
namespace Go.Ab
set_option linter.unusedVariables false
set_option linter.unusedSimpArgs false

/-- Two states that read the same. -/
structure Eqv (s u : St) : Prop where
  n : s.n = u.n
  t : ∀ t, s.t.get t = u.t.get t
  h : s.h = u.h
  nx : s.nx = u.nx
  k : s.k = u.k
  nk : s.nk = u.nk
theorem Eqv.refl (s : St) : Eqv s s := ⟨rfl, fun _ => rfl, rfl, rfl, rfl, rfl⟩
theorem Eqv.symm {s u : St} (h : Eqv s u) : Eqv u s := ⟨h.n.symm, fun t => (h.t t).symm, h.h.symm, h.nx.symm, h.k.symm, h.nk.symm⟩
theorem Eqv.trans {s u v : St} (h : Eqv s u) (k : Eqv u v) : Eqv s v := ⟨h.n.trans k.n, fun t => (h.t t).trans (k.t t), h.h.trans k.h, h.nx.trans k.nx, h.k.trans k.k, h.nk.trans k.nk⟩
theorem Eqv.eq {s u : St} (h : Eqv s u) : u = s.withT u.t := by
  obtain ⟨h1, h2, h3, h4, h5, h6⟩ := h
  cases s; cases u
  simp only at h1 h3 h4 h5 h6
  subst h1; subst h3; subst h4; subst h5; subst h6
  rfl
theorem Eqv.ev {s u : St} (h : Eqv s u) (x : Operand) : ev u x = ev s x := by
  cases x <;> simp only [Ab.ev, h.t]
theorem Eqv.rel {s u : St} (h : Eqv s u) {a : Act} {X : Cx} (r : Rel s a X) : Rel u a X := by
  rw [h.eq]
  exact { size := r.size, dfr := r.dfr, tmps := fun t => by rw [show (s.withT u.t).t.get t = s.t.get t from (h.t t).symm]; exact r.tmps t, heap := r.heap, mu := r.mu, kap := r.kap, kn := r.kn, tok := r.tok, ow := r.ow }
theorem Eqv.put {s u : St} (h : Eqv s u) (d : Option Nat) (v : AV) : Eqv (s.put d v) (u.put d v) := by
  refine ⟨?_, fun t => ?_, ?_, ?_, ?_, ?_⟩
  · rw [put_n, put_n, h.n]
  · rw [put_get, put_get, h.t]
  all_goals cases d <;> simp [St.put, h.h, h.nx, h.k, h.nk]
theorem Res.takes_map {R : Res} {f : St → St} {v : AV} {s' : St} (h : R.takes v s') : (R.mapS f).takes v (f s') := by
  cases R with
  | fail => exact h
  | ok w u => exact ⟨h.1, by rw [h.2]⟩
  | need C w u => exact ⟨h.1, h.2.1, by rw [h.2.2]⟩
theorem opG_eqv {E : Env} {op : Op} {s u : St} (he : Eqv s u) {v : AV} {s' : St} (h : (opG E op s).takes v s') : ∃ u', (opG E op u).takes v u' ∧ Eqv s' u' := by
  have ht := Res.sat_takes opG_t h
  refine ⟨s'.withT u.t, ?_, ?_⟩
  · rw [he.eq, opG_tau (fun x _ => by rw [← he.eq]; exact he.ev x)]
    exact Res.takes_map h
  · exact ⟨rfl, fun t => by rw [ht.1]; exact he.t t, rfl, rfl, rfl, rfl⟩
theorem wants_eqv {ops : List Oper} {s u : St} (he : Eqv s u) (o : Oper) : wants ops u o = wants ops s o := by
  unfold wants
  split
  · rfl
  · split
    · rfl
    · rw [he.t]
theorem stp_eqv {E : Env} {ops : List Oper} {o : Oper} {s u s' : St} (he : Eqv s u) (h : Stp E ops o s s') : ∃ u', Stp E ops o u u' ∧ Eqv s' u' := by
  obtain ⟨hd, h | ⟨hw, rfl⟩⟩ := h
  · obtain ⟨hw, v, w, ht, rfl⟩ := h
    obtain ⟨w', h1, h2⟩ := opG_eqv he ht
    exact ⟨_, ⟨by cases hdd : o.dst <;> simp_all [dstOk, he.n], .inl ⟨by rw [wants_eqv he]; exact hw, v, w', h1, rfl⟩⟩, h2.put _ _⟩
  · exact ⟨_, ⟨by cases hdd : o.dst <;> simp_all [dstOk, he.n], .inr ⟨by rw [wants_eqv he]; exact hw, rfl⟩⟩, he.put _ _⟩
theorem ex_eqv {E : Env} {ops : List Oper} : ∀ {l : List Nat} {s u s' : St}, Eqv s u → Ex E ops l s s' → ∃ u', Ex E ops l u u' ∧ Eqv s' u'
  | [], s, u, s', he, h => by
    have : s = s' := h
    subst this
    exact ⟨u, rfl, he⟩
  | i :: l, s, u, s', he, h => by
    obtain ⟨o, w, hi, hs, hl⟩ := h
    obtain ⟨w', h1, h2⟩ := stp_eqv he hs
    obtain ⟨u', h3, h4⟩ := ex_eqv h2 hl
    exact ⟨u', ⟨o, w', hi, h1, h3⟩, h4⟩

/-- Blocks that are not there yet are not there. -/
def Wf (s : St) : Prop := ∀ i, s.nx ≤ i → s.h i = none
theorem Rel.wf {s : St} {a : Act} {X : Cx} (r : Rel s a X) : Wf s := by
  intro i hi
  cases h : s.h i with
  | none => rfl
  | some b => have := (r.heap i b h).1; omega
theorem Wf.put {s : St} (h : Wf s) (d : Option Nat) (v : AV) : Wf (s.put d v) := by cases d <;> exact h
theorem Wf.new {s : St} (h : Wf s) (b : Blk) : Wf (s.new b) := by
  intro i hi
  have hi' : s.nx + 1 ≤ i := hi
  exact (upd_ne s.h _ (show i ≠ s.nx by omega)).trans (h i (by omega))
theorem Wf.setB {s : St} (h : Wf s) {i : Nat} {old : Blk} (hi : s.h i = some old) (b : Blk) : Wf (s.setB i b) := by
  intro j hj
  have hj' : s.nx ≤ j := hj
  have : j ≠ i := fun e => by subst e; rw [h j hj'] at hi; cases hi
  exact (upd_ne s.h _ this).trans (h j hj')
theorem opF_wf {E : Env} {op : Op} {s : St} (hw : Wf s) : (opF E op s).sat (fun _ s' => Wf s') := by
  by_cases h : effect E op ≤ 1
  · exact Res.sat_imp (opF_keep h) fun v s' e => by subst e; exact hw
  · cases op <;> first | (simp [effect] at h; done) | skip
    case alloc T =>
      simp only [opF, allocA]
      cases E.Γ T with
      | none => trivial
      | some ti => simp only [forceL_eq]; cases E.bt T <;> exact hw.new _
    case box T x =>
      refine evF_sat' fun v => ?_
      cases v <;> first | trivial | exact hw.new _
    case store T x y =>
      refine evF_sat' fun v => evF_sat' fun u => ?_
      unfold storeA
      repeat' split
      all_goals first | trivial | (rw [forceL_eq]; exact hw.setB ‹_› _) | (rw [force_eq]; exact fun _ => hw.setB ‹_› _)
    case convert S D x => exact evF_sat' fun v => Res.sat_imp (convA_eff2 (by
      have h : ¬ effC E S D ≤ 1 := h
      unfold effC at h ⊢
      revert h
      cases E.hp <;> simp only [] <;> first | (intro h; omega) | skip
      split <;> intro h <;> first | rfl | omega)) fun _ _ ⟨b, e⟩ => by subst e; exact hw.new _
    case makeSlice T l c =>
      have hp : E.hp = true := by cases hp : E.hp with | true => rfl | false => simp [effect, hp] at h
      simp only [opF]
      exact evF_sat' fun v => evF_sat' fun u => Res.sat_imp (makeSliceA_eff2 hp) fun _ _ ⟨b, e⟩ => by subst e; exact hw.new _
    case buildSlice T n ps =>
      have hb : E.bp T = true := by cases hb : E.bp T with | true => rfl | false => simp [effect, hb] at h
      simp only [opF, partsF_eq, hb]
      cases parts s ps.toList with
      | none => trivial
      | some l => exact Res.sat_imp buildRowA_eff2 fun _ _ ⟨b, e⟩ => by subst e; exact hw.new _
    case makeMap T r => cases r <;> first | trivial | exact hw.new _
    case range T x =>
      refine evF_sat' fun v => ?_
      unfold rangeA
      split <;> first | trivial | exact hw.new _
    case next x b =>
      cases b with
      | false => trivial
      | true =>
        refine evF_sat' fun v => ?_
        unfold nextA
        repeat' split
        all_goals first | trivial | exact hw.setB ‹_› _
    case mapUpdate T m k x =>
      refine evF_sat' fun v => evF_sat' fun u => evF_sat' fun w => ?_
      unfold mapSetA
      repeat' split
      all_goals first | trivial | exact hw.setB ‹_› _ | exact fun _ => hw.setB ‹_› _
    case insert T m k x =>
      refine evF_sat' fun v => evF_sat' fun u => evF_sat' fun w => ?_
      unfold mapSetA
      repeat' split
      all_goals first | trivial | exact hw.setB ‹_› _ | exact fun _ => hw.setB ‹_› _
    case call c =>
      obtain ⟨callee, cargs, argTypes⟩ := c
      cases callee <;> first | (simp [effect] at h; done) | (rename_i f; cases f <;> simp [effect] at h; done) | skip
      rename_i b
      cases b <;> first | (simp [effect] at h; done) | (exfalso; revert h; simp only [effect]; cases E.ap <;> simp; done) | skip
      refine evsF_sat' fun args => ?_
      match args, argTypes[0]?, argTypes[1]? with
      | [x, y], some T, some xT =>
        show (appendA E s T xT x y).sat _
        have hB : ∀ x, (appendB E s T xT x y).sat fun _ s' => Wf s' := fun x => by
          unfold appendB
          repeat' split
          all_goals first | trivial | exact fun _ => hw
        have hk : ∀ i b, Wf (s.grow i b) := fun i b j hj => by
          have hj' : s.nx + 1 ≤ j := hj
          show upd (upd s.h i none) s.nx (some b) j = none
          rw [upd_ne _ _ (show j ≠ s.nx by omega)]
          by_cases h : j = i
          · subst h; exact upd_same ..
          · exact (upd_ne s.h _ h).trans (hw j (by omega))
        have hG : ∀ x, (appendG E s T xT x y).sat fun _ s' => Wf s' := fun x => by
          unfold appendG
          repeat' split
          all_goals first | trivial | exact fun _ => hw.new _ | exact fun _ => hk _ _
        unfold appendA
        split
        · exact hB _
        split
        · split
          · exact hB _
          · exact hG _
        · split
          · exact hB _
          · exact hG _
      | [], _, _ => trivial
      | [_], _, _ => trivial
      | _ :: _ :: _ :: _, _, _ => trivial
      | [_, _], none, _ => trivial
      | [_, _], some _, none => trivial
    case mapEntry => trivial
    case entryStore => trivial
theorem opG_wf {E : Env} {op : Op} {s : St} (hw : Wf s) : (opG E op s).sat (fun _ s' => Wf s') := by
  cases hh : isH E op with
  | false => rw [opG_f hh]; exact opF_wf hw
  | true =>
    rw [opG_h hh]
    have key : ∀ m : St, Wf (s.onto m) := fun m i hi => by
      show (match Nat.blt i m.nx with | true => m.h i | false => none) = none
      have hi : m.nx ≤ i := hi
      have : Nat.blt i m.nx = false := by
        cases hb : Nat.blt i m.nx with
        | false => rfl
        | true => rw [Nat.blt_eq] at hb; omega
      rw [this]
    rcases isH_call hh with ⟨g, xs, ts, rfl, hg⟩ | ⟨t, xs, ts, rfl⟩
    · refine evsF_sat' fun args => ?_
      cases E.H g args s.mem <;> first | trivial | exact key _ | exact fun _ => key _
    · simp only [hcallA]
      refine evF_sat' fun v => evsF_sat' fun args => ?_
      split
      · rename_i g first cap
        split
        · cases E.H g (first ++ args ++ cap) s.mem <;> first | trivial | exact key _ | exact fun _ => key _
        · exact Res.sat_imp (sat_const (callS_st s s rfl)) fun v s' e => by subst e; exact hw
      · trivial
theorem Stp.wf {E : Env} {ops : List Oper} {o : Oper} {s s' : St} (hw : Wf s) (h : Stp E ops o s s') : Wf s' := by
  obtain ⟨hd, ⟨_, v, u, ht, rfl⟩ | ⟨_, rfl⟩⟩ := h
  · exact (Res.sat_takes (opG_wf hw) ht).put _ _
  · exact hw.put _ _

/-! ### Two operations that stand apart -/
theorem usesT_mem {l : List Operand} {t : Nat} (h : usesT l t = false) : Operand.tmp t ∉ l := by
  induction l with
  | nil => simp
  | cons x l ih =>
    cases x with
    | tmp u =>
      simp only [usesT] at h
      cases hb : Nat.beq u t with
      | true => rw [hb] at h; cases h
      | false =>
        rw [hb] at h
        have := Nat.ne_of_beq_eq_false hb
        simp only [List.mem_cons, Operand.tmp.injEq, not_or]
        exact ⟨fun e => this e.symm, ih h⟩
    | _ => simp only [usesT] at h; simp only [List.mem_cons, not_or]; exact ⟨by simp, ih h⟩
theorem looks_ev {ops : List Oper} {o : Oper} {t : Nat} (h : looksT ops o t = false) : (∀ (s : St) (v : AV), ∀ x ∈ o.op.operands.toList, ev (s.put (some t) v) x = ev s x) ∧ ∀ (s : St) (v : AV), wants ops (s.put (some t) v) o = wants ops s o := by
  unfold looksT at h
  split at h
  · cases h
  · rename_i hu
    refine ⟨fun s v x hx => ?_, fun s v => ?_⟩
    · cases x with
      | tmp u =>
        have : t ≠ u := fun e => usesT_mem hu (e ▸ hx)
        simp only [ev, put_get]
        rw [if_neg (by simpa using this)]
      | _ => rfl
    · unfold wants
      split at h
      · rename_i hg; rw [hg]
      · rename_i j w hg
        rw [hg]
        simp only
        split at h
        · rename_i u hu
          rw [hu]
          simp only [put_get]
          rw [if_neg (by simp; exact fun e => Nat.ne_of_beq_eq_false h e.symm)]
        · rename_i hu; rw [hu]

section
variable {E : Env} {ops : List Oper} {s : St}
/-! ### Owners apart from blocks -/
def St.withK (s u : St) : St := ⟨s.n, s.t, s.h, s.nx, u.k, u.nk⟩
def St.withH (s u : St) : St := ⟨s.n, s.t, u.h, u.nx, s.k, s.nk⟩
theorem convA_tok {S D : Nat} {x : AV} {κ : St} : convA E (s.withK κ) S D x = (convA E s S D x).mapS (·.withK κ) := by
  unfold convA
  cases tdOf E S with
  | none => rfl
  | some sd =>
    cases tdOf E D with
    | none => rfl
    | some dd =>
      cases dd <;> cases x <;> try rfl
      · cases sd <;> try rfl
        rename_i e
        simp only
        cases tdOf E e with
        | none => rfl
        | some td => cases td <;> try rfl
                     rename_i k
                     cases k <;> rfl
      · rename_i i lo n sz cap
        show (match sd, E.hp, s.h i with | .slice e, true, some (.arr U' sz' m f) => _ | _, _, _ => _) = _
        cases sd <;> try rfl
        rename_i e
        cases E.hp <;> try rfl
        simp only
        cases s.h i with
        | none => rfl
        | some blk =>
          cases blk <;> try rfl
          simp only
          cases tdOf E e with
          | none => rfl
          | some td => cases td <;> try rfl
                       rename_i k
                       cases k <;> rfl
      · rename_i e b
        simp only
        cases tdOf E e with
        | none => rfl
        | some td => cases td <;> try rfl
                     rename_i k
                     cases k <;> try rfl
                     cases E.hp <;> rfl
theorem makeSliceA_tok {κ : St} {T : Nat} {x y : AV} : makeSliceA E (s.withK κ) T x y = (makeSliceA E s T x y).mapS (·.withK κ) := by
  unfold makeSliceA
  cases E.Γ T with
  | none => rfl
  | some ti =>
    simp only
    cases ti.d <;> try rfl
    rename_i e
    simp only
    cases E.Γ e with
    | none => rfl
    | some te =>
      cases x <;> try rfl
      rename_i k n
      cases k <;> try rfl
      cases y <;> try rfl
      rename_i k' m
      cases k' <;> try rfl
      cases E.hp <;> rfl
theorem buildRowA_tok {κ : St} {T n : Nat} {l : List (Nat × AV)} : buildRowA E (s.withK κ) T n l = (buildRowA E s T n l).mapS (·.withK κ) := by
  unfold buildRowA
  simp only [forceL_eq]
  repeat' split
  all_goals rfl
theorem loadA_tok {κ : St} {T : Nat} {x : AV} : loadA E (s.withK κ) T x = loadA E s T x := rfl
theorem loadR_tok {κ : St} {T : Nat} {x : AV} : loadR E (s.withK κ) T x = (loadR E s T x).mapS (·.withK κ) := by
  have gen : ∀ o : Option AV, Res.of (s.withK κ) o = (Res.of s o).mapS (·.withK κ) := fun o => by cases o <;> rfl
  cases x
  case eptr i j sz off =>
    unfold loadR
    simp only
    cases E.Γ T with
    | none => rfl
    | some ti =>
      show (match s.h i with | some (.arr U' sz' n f) => _ | _ => _) = _
      simp only
      cases s.h i with
      | none => rfl
      | some blk =>
        cases blk <;> try rfl
        rename_i sz' n f
        simp only
        cases cellsAt ti.d.agg ti.size (f j).cells off <;> rfl
  all_goals (rw [loadR_eq (by intros; simp)]; first | exact gen _ | (rw [loadR_eq (by intros; simp)]; exact gen _))
theorem lenA_tok {κ : St} {T : Nat} {x : AV} : lenA E (s.withK κ) T x = (lenA E s T x).mapS (·.withK κ) := by
  unfold lenA
  cases tdOf E T with
  | none => rfl
  | some d =>
    cases d <;> cases x <;> try rfl
    rename_i i
    show (match s.h i with | some (.map es) => Res.ok (.int .i64 es.length) (s.withK κ) | _ => .fail) = _
    simp only
    cases s.h i with
    | none => rfl
    | some blk => cases blk <;> rfl
theorem opF_tok {op : Op} {κ : St} (heff : effect E op ≤ 2) (h : ∀ x ∈ op.operands.toList, ev (s.withK κ) x = ev s x) : opF E op (s.withK κ) = (opF E op s).mapS (·.withK κ) := by
  have kx : ∀ {x : Operand}, x ∈ op.operands.toList → ev (s.withK κ) x = ev s x := fun hx => h _ hx
  cases op with
  | move x => simp only [opF, evR_eq, kx (x := x) (by simp [Op.operands]), mapS_of]
  | assign x => simp only [opF, evR_eq, kx (x := x) (by simp [Op.operands]), mapS_of]
  | pick c x y =>
    simp only [opF, evF_eq, evR_eq, kx (x := c) (by simp [Op.operands]), kx (x := x) (by simp [Op.operands]), kx (x := y) (by simp [Op.operands])]
    cases ev s c with
    | none => rfl
    | some v => cases v <;> first | rfl | (rename_i b; cases b <;> simp only [mapS_of])
  | alloc T =>
    simp only [opF, allocA]
    cases E.Γ T with
    | none => rfl
    | some ti => simp only [forceL_eq]; cases E.bt T <;> rfl
  | box T x =>
    simp only [opF, evF_eq, kx (x := x) (by simp [Op.operands])]
    cases ev s x with
    | none => rfl
    | some v => cases v <;> rfl
  | build T ps =>
    have hp : parts (s.withK κ) ps.toList = parts s ps.toList := parts_congr (fun x hx => h x (by simp only [Op.operands, List.toList_toArray]; exact hx))
    simp only [opF, partsF_eq, hp]
    cases parts s ps.toList with
    | none => rfl
    | some l => simp only [mapS_of]
  | buildSlice T n ps =>
    have hp : parts (s.withK κ) ps.toList = parts s ps.toList := parts_congr (fun x hx => h x (by simp only [Op.operands, List.toList_toArray]; exact hx))
    simp only [opF, partsF_eq, hp]
    cases parts s ps.toList with
    | none => rfl
    | some l => cases E.bp T <;> simp only [mapS_of, buildRowA_tok]
  | load T x =>
    simp only [opF, evF_eq, kx (x := x) (by simp [Op.operands])]
    cases ev s x with
    | none => rfl
    | some v => exact loadR_tok
  | store T x y =>
    simp only [opF, evF_eq, kx (x := x) (by simp [Op.operands]), kx (x := y) (by simp [Op.operands])]
    cases ev s x with
    | none => rfl
    | some v =>
      cases ev s y with
      | none => rfl
      | some u =>
        simp only [storeA, forceL_eq]
        cases E.Γ T with
        | none => rfl
        | some ti =>
          cases v <;> try rfl
          case eptr i j sz off =>
            show (match s.h i with | some (.arr U' sz' n f) => _ | _ => _) = _
            simp only
            cases hh : s.h i with
            | none => rfl
            | some blk =>
              cases blk <;> try rfl
              rename_i sz' n f
              simp only
              cases Nat.beq off 0 && Nat.beq ti.size sz
              · simp only
                cases ones u.cells <;> cases Nat.beq u.cells.length ti.size <;> cases Nat.ble (off + ti.size) (f j).cells.length <;> try rfl
                simp only
                cases putE (f j) off u with
                | none => rfl
                | some z => simp only [force_eq]; rfl
              · simp only
                cases ones u.cells <;> cases Nat.beq u.cells.length ti.size <;> try rfl
                simp only [force_eq]; rfl
          rename_i i off
          show (match s.h i with | some (.cells cs) => _ | some (.tcells U cs) => _ | _ => _) = _
          cases hh : s.h i with
          | none => simp only [hh]; rfl
          | some blk =>
            cases blk with
            | map es => simp only [hh]; rfl
            | arr T sz n f => simp only [hh]; rfl
            | siter b p => simp only [hh]; rfl
            | tcells U cs =>
              simp only [hh]
              cases ones u.cells <;> cases Nat.beq u.cells.length ti.size <;> cases Nat.ble (off + ti.size) cs.length <;> rfl
            | cells cs =>
              simp only [hh]
              cases ones u.cells <;> cases Nat.beq u.cells.length ti.size <;> cases Nat.ble (off + ti.size) cs.length <;> rfl
  | nilCheck x =>
    simp only [opF, evF_eq, kx (x := x) (by simp [Op.operands])]
    cases ev s x with
    | none => rfl
    | some v => cases v <;> rfl
  | binOp bop T x y yT =>
    simp only [opF, evF_eq, kx (x := x) (by simp [Op.operands]), kx (x := y) (by simp [Op.operands])]
    cases ev s x with
    | none => rfl
    | some v =>
      cases ev s y with
      | none => rfl
      | some u =>
        simp only
        rw [mapS_self _ (binA_st s s), ← binA_st s]
  | unOp uop T x =>
    simp only [opF, evF_eq, kx (x := x) (by simp [Op.operands])]
    cases ev s x with
    | none => rfl
    | some v => simp only; rw [mapS_self _ (unA_st s s), ← unA_st s]
  | convert S D x =>
    simp only [opF, evF_eq, kx (x := x) (by simp [Op.operands])]
    cases ev s x with
    | none => rfl
    | some v => exact convA_tok
  | makeFunc fn first cap =>
    cases fn with
    | func f =>
      have h1 : evs (s.withK κ) first.toList = evs s first.toList := evs_congr (fun x hx => kx (by simp [Op.operands]; exact .inl (by simpa using hx)))
      have h2 : evs (s.withK κ) cap.toList = evs s cap.toList := evs_congr (fun x hx => kx (by simp [Op.operands]; exact .inr (by simpa using hx)))
      simp only [opF, evsF_eq, h1, h2]
      cases evs s first.toList with
      | none => rfl
      | some l => cases evs s cap.toList <;> rfl
    | _ => rfl
  | makeMap T r => cases r <;> rfl
  | makeSlice T l c =>
    simp only [opF, evF_eq, kx (x := l) (by simp [Op.operands]), kx (x := c) (by simp [Op.operands])]
    cases ev s l with
    | none => rfl
    | some v =>
      cases ev s c with
      | none => rfl
      | some u => exact makeSliceA_tok
  | slice T x lo hi mx =>
    cases mx with
    | some m => rfl
    | none =>
      have h1 : evo (s.withK κ) lo = evo s lo := evo_congr (fun y hy => kx (by simp [Op.operands, hy]))
      have h2 : evo (s.withK κ) hi = evo s hi := evo_congr (fun y hy => kx (by simp [Op.operands, hy]))
      simp only [opF, evF_eq, kx (x := x) (by simp [Op.operands]), h1, h2]
      cases ev s x with
      | none => rfl
      | some v =>
        cases evo s lo with
        | none => rfl
        | some l =>
          cases evo s hi with
          | none => rfl
          | some h => simp only; rw [mapS_self _ (sliceA_st s s), ← sliceA_st s]
  | fieldAddr S x f =>
    simp only [opF, evF_eq, kx (x := x) (by simp [Op.operands])]
    cases ev s x with
    | none => rfl
    | some v => simp only [mapS_of]
  | field S x f =>
    simp only [opF, evF_eq, kx (x := x) (by simp [Op.operands])]
    cases ev s x with
    | none => rfl
    | some v => simp only [mapS_of]
  | indexAddr T x i =>
    simp only [opF, evF_eq, kx (x := x) (by simp [Op.operands]), kx (x := i) (by simp [Op.operands])]
    cases ev s x with
    | none => rfl
    | some v =>
      cases ev s i with
      | none => rfl
      | some u => simp only; rw [mapS_self _ (indexAddrA_st s s), ← indexAddrA_st s]
  | index T x i =>
    simp only [opF, evF_eq, kx (x := x) (by simp [Op.operands]), kx (x := i) (by simp [Op.operands])]
    cases ev s x with
    | none => rfl
    | some v =>
      cases ev s i with
      | none => rfl
      | some u => simp only; rw [mapS_self _ (indexA_st s s), ← indexA_st s]
  | lookup T x i ok =>
    simp only [opF, evF_eq, kx (x := x) (by simp [Op.operands]), kx (x := i) (by simp [Op.operands])]
    cases ev s x with
    | none => rfl
    | some v =>
      cases ev s i with
      | none => rfl
      | some u =>
        simp only
        unfold lookupA
        have hh : (s.withK κ).h = s.h := rfl
        simp only [hh]
        repeat' split
        all_goals rfl
  | mapUpdate T m k x =>
    simp only [opF, evF_eq, kx (x := m) (by simp [Op.operands]), kx (x := k) (by simp [Op.operands]), kx (x := x) (by simp [Op.operands])]
    cases ev s m with
    | none => rfl
    | some v =>
      cases ev s k with
      | none => rfl
      | some u =>
        cases ev s x with
        | none => rfl
        | some w =>
          simp only
          unfold mapSetA
          have hh : (s.withK κ).h = s.h := rfl
          simp only [hh]
          repeat' split
          all_goals rfl
  | insert T m k x =>
    simp only [opF, evF_eq, kx (x := m) (by simp [Op.operands]), kx (x := k) (by simp [Op.operands]), kx (x := x) (by simp [Op.operands])]
    cases ev s m with
    | none => rfl
    | some v =>
      cases ev s k with
      | none => rfl
      | some u =>
        cases ev s x with
        | none => rfl
        | some w =>
          simp only
          unfold mapSetA
          have hh : (s.withK κ).h = s.h := rfl
          simp only [hh]
          repeat' split
          all_goals rfl
  | extract x i =>
    simp only [opF, evF_eq, kx (x := x) (by simp [Op.operands])]
    cases ev s x with
    | none => rfl
    | some v => cases v <;> first | rfl | (simp only [mapS_of]; done) | (simp only [partN]; split <;> rfl)
  | range T x =>
    simp only [opF, evF_eq, kx (x := x) (by simp [Op.operands])]
    cases ev s x with
    | none => rfl
    | some v =>
      simp only [rangeA]
      split <;> rfl
  | next x b =>
    cases b with
    | false => rfl
    | true => simp [effect] at heff
  | call c =>
    obtain ⟨callee, cargs, argTypes⟩ := c
    have h1 : evs (s.withK κ) cargs.toList = evs s cargs.toList := evs_congr (fun x hx => kx (by simp [Op.operands, Call.operands]; exact .inr (by simpa using hx)))
    simp only [opF, evsF_eq, h1]
    cases evs s cargs.toList with
    | none => rfl
    | some args =>
      cases callee with
      | value f =>
        simp only [evF_eq, kx (x := f) (by simp [Op.operands, Call.operands])]
        cases ev s f with
        | none => rfl
        | some v => cases v <;> first | rfl | (simp only; cases isTmp f <;> simp only <;> first | rw [mapS_self _ (callA_st s s), ← callA_st s] | (rw [mapS_self _ (callS_st s s rfl)]; exact callS_st s (s.withK κ) rfl))
      | invoke x m => rfl
      | builtin b =>
        cases b <;> first | rfl | skip
        · match args, argTypes[0]?, argTypes[1]? with
          | [x, y], some T, some xT => exact absurd heff (by simp only [effect]; cases E.ap <;> simp)
          | [], _, _ => rfl
          | [_], _, _ => rfl
          | _ :: _ :: _ :: _, _, _ => rfl
          | [_, _], none, _ => rfl
          | [_, _], some _, none => rfl
        · match args, argTypes[0]? with
          | [x], some T => exact lenA_tok
          | [], _ => rfl
          | _ :: _ :: _, _ => rfl
          | [_], none => rfl
        · show maxA _ _ = _; rw [mapS_self _ (maxA_st s s), ← maxA_st s]
        · show minA _ _ = _; rw [mapS_self _ (minA_st s s), ← minA_st s]
  | _ => rfl
theorem appendB_app {κ : St} {T xT : Nat} {x y : AV} : appendB E (s.withH κ) T xT x y = (appendB E s T xT x y).mapS (·.withH κ) := by
  unfold appendB
  cases E.Γ T with
  | none => rfl
  | some ti =>
    cases tdOf E xT with
    | none => rfl
    | some xd =>
      simp only
      cases ti.d <;> try rfl
      rename_i e
      simp only
      cases E.Γ e with
      | none => rfl
      | some te =>
        cases xd <;> cases x <;> try rfl
        rename_i tag n f
        cases tag <;> cases y <;> rfl
theorem opF_app {op : Op} {κ : St} (h4 : effect E op = 4) : opF E op (s.withH κ) = (opF E op s).mapS (·.withH κ) := by
  cases op <;> first | (simp only [effect] at h4; done) | skip
  all_goals try (exfalso; revert h4; simp [effect]; done)
  case convert S D x =>
    exfalso; revert h4; simp only [effect]; unfold effC
    repeat' split
    all_goals decide
  case makeSlice T l c => exfalso; revert h4; simp only [effect]; split <;> decide
  case buildSlice T n l => exfalso; revert h4; simp only [effect]; split <;> decide
  case call c =>
    obtain ⟨callee, cargs, argTypes⟩ := c
    cases callee
    case value f => exfalso; revert h4; cases f <;> simp [effect]
    case invoke => exfalso; revert h4; simp [effect]
    case builtin b =>
      cases b <;> first | (exfalso; revert h4; simp [effect]; done) | skip
      have hap : E.ap = true := by revert h4; simp only [effect]; cases E.ap <;> simp
      have he : evs (s.withH κ) cargs.toList = evs s cargs.toList := evs_congr fun x _ => by cases x <;> rfl
      simp only [opF, evsF_eq, he]
      cases evs s cargs.toList with
      | none => rfl
      | some args =>
        simp only
        match args, argTypes[0]?, argTypes[1]? with
        | [x, y], some T, some xT => simp only [appendA, hap]; exact appendB_app
        | [], _, _ => rfl
        | [_], _, _ => rfl
        | _ :: _ :: _ :: _, _, _ => rfl
        | [_, _], none, _ => rfl
        | [_, _], some _, none => rfl
theorem withK_self (s : St) : s.withK s = s := rfl
theorem withH_self (s : St) : s.withH s = s := rfl
theorem put_withK (s : St) (d : Option Nat) (v : AV) (u : St) : (s.put d v).withK u = (s.withK u).put d v := by cases d <;> rfl
theorem put_withH (s : St) (d : Option Nat) (v : AV) (u : St) : (s.put d v).withH u = (s.withH u).put d v := by cases d <;> rfl
theorem effH_le {op : Op} (h : effH E op ≤ 2) : isH E op = false ∧ effect E op ≤ 2 := by
  cases hh : isH E op with
  | true => rw [effH_h hh] at h; omega
  | false => rw [effH_f hh] at h; exact ⟨rfl, h⟩
theorem effH_4 {op : Op} (h : effH E op = 4) : isH E op = false ∧ effect E op = 4 := by
  cases hh : isH E op with
  | true => rw [effH_h hh] at h; omega
  | false => rw [effH_f hh] at h; exact ⟨rfl, h⟩
theorem opG_tok {op : Op} (κ : St) (h : effH E op ≤ 2) : opG E op (s.withK κ) = (opG E op s).mapS (·.withK κ) := by
  obtain ⟨h1, h2⟩ := effH_le h
  rw [opG_f h1, opG_f h1]
  exact opF_tok h2 fun x _ => by cases x <;> rfl
theorem opG_app {op : Op} (κ : St) (h : effH E op = 4) : opG E op (s.withH κ) = (opG E op s).mapS (·.withH κ) := by
  obtain ⟨h1, h2⟩ := effH_4 h
  rw [opG_f h1, opG_f h1]
  exact opF_app h2
/-- A step, told by what it puts where and what it does to memory. -/
theorem stp_withT {o : Oper} {s s' : St} {d : Option Nat} {v : AV} (h : Stp E ops o s s') (hl : ∀ t, d = some t → looksT ops o t = false) (hne : ∀ t, d = some t → o.dst ≠ some t) :
    ∃ u, Stp E ops o (s.put d v) u ∧ Eqv (s'.put d v) u := by
  cases d with
  | none => exact ⟨s', h, Eqv.refl _⟩
  | some t =>
    obtain ⟨h1, h2⟩ := looks_ev (hl t rfl)
    have hdd := hne t rfl
    have comm : ∀ (w : St) (x : AV), Eqv ((w.put o.dst x).put (some t) v) ((w.put (some t) v).put o.dst x) := by
      intro w x
      refine ⟨?_, fun q => ?_, ?_, ?_, ?_, ?_⟩
      · simp only [put_n]
      · simp only [put_get]
        by_cases e1 : some t = some q
        · rw [if_pos e1, if_neg (by rw [← e1]; exact hdd), if_pos e1]
        · rw [if_neg e1, if_neg e1]
      all_goals cases o.dst <;> rfl
    obtain ⟨hd, ⟨hw, x, u, ht, rfl⟩ | ⟨hw, rfl⟩⟩ := h
    · refine ⟨(u.put (some t) v).put o.dst x, ⟨by cases hq : o.dst <;> simp_all [dstOk, put_n], .inl ⟨by rw [h2]; exact hw, x, _, ?_, rfl⟩⟩, comm u x⟩
      have htt := Res.sat_takes opG_t ht
      have e : s.put (some t) v = s.withT (s.t.set t v) := rfl
      have e' : u.put (some t) v = u.withT (s.t.set t v) := by
        show (⟨u.n, u.t.set t v, u.h, u.nx, u.k, u.nk⟩ : St) = _
        rw [htt.1]; rfl
      rw [e, opG_tau (fun y hy => by rw [← e]; exact h1 s v y hy), e']
      exact Res.takes_map ht
    · exact ⟨_, ⟨by cases hq : o.dst <;> simp_all [dstOk, put_n], .inr ⟨by rw [h2]; exact hw, rfl⟩⟩, comm s _⟩

theorem withM_self (s : St) : s.withM s = s := rfl
theorem put_withM (s : St) (d : Option Nat) (v : AV) (u : St) : (s.put d v).withM u = (s.withM u).put d v := by cases d <;> rfl
/-- upon another memory: what asks none -/
theorem stp_mem {o : Oper} {s s' : St} (h0 : effH E o.op = 0) (h : Stp E ops o s s') (u : St) : Stp E ops o (s.withM u) (s'.withM u) := by
  obtain ⟨hd, ⟨hw, x, w, ht, rfl⟩ | ⟨hw, rfl⟩⟩ := h
  · have hk := Res.sat_takes (opG_keep (by omega)) ht
    subst hk
    refine ⟨hd, .inl ⟨hw, x, w.withM u, ?_, put_withM ..⟩⟩
    rw [opG_mem h0]
    exact Res.takes_map (f := fun _ => w.withM u) ht
  · exact ⟨hd, .inr ⟨hw, put_withM ..⟩⟩
/-- what a step puts into its slot -/
theorem stp_put {o : Oper} {s s' : St} (h : Stp E ops o s s') : ∃ v u, s' = u.put o.dst v ∧ u.t = s.t ∧ u.n = s.n ∧ (effH E o.op ≤ 1 → u = s) := by
  obtain ⟨hd, ⟨hw, x, w, ht, rfl⟩ | ⟨hw, rfl⟩⟩ := h
  · have := Res.sat_takes opG_t ht
    exact ⟨x, w, rfl, this.1, this.2, fun h => Res.sat_takes (opG_keep h) ht⟩
  · exact ⟨_, s, rfl, rfl, rfl, fun _ => rfl⟩
theorem eff2_new {o : Oper} {s u : St} {v : AV} (h2 : effH E o.op = 2) (h : (opG E o.op s).takes v u) : ∃ b, u = s.new b := by
  have hh : isH E o.op = false := by
    cases hh : isH E o.op with
    | false => rfl
    | true => rw [effH_h hh] at h2; omega
  rw [effH_f hh] at h2
  rw [opG_f hh] at h
  obtain ⟨dst, op, type, pos, after, guard⟩ := o
  have hs : (opF E op s).sat fun _ s' => ∃ b, s' = s.new b := by
    cases op <;> first | (simp [effect] at h2; done) | skip
    case alloc T =>
      simp only [opF, allocA]
      cases E.Γ T with
      | none => trivial
      | some ti => simp only [forceL_eq]; cases E.bt T <;> exact ⟨_, rfl⟩
    case box T x =>
      refine evF_sat' fun v => ?_
      cases v <;> first | trivial | exact ⟨_, rfl⟩
    case buildSlice T n ps =>
      have hb : E.bp T = true := by cases hb : E.bp T with | true => rfl | false => simp [effect, hb] at h2
      simp only [opF, partsF_eq, hb]
      cases parts s ps.toList with
      | none => trivial
      | some l => exact buildRowA_eff2
    case makeMap T r => cases r <;> first | trivial | exact ⟨_, rfl⟩
    case range T x =>
      refine evF_sat' fun v => ?_
      unfold rangeA
      split <;> first | trivial | exact ⟨_, rfl⟩
    case convert S D x => exact evF_sat' fun v => convA_eff2 h2
    case makeSlice T l c =>
      have hp : E.hp = true := by cases hp : E.hp with | true => rfl | false => simp [effect, hp] at h2
      simp only [opF]
      exact evF_sat' fun v => evF_sat' fun u => makeSliceA_eff2 hp
    case call c =>
      obtain ⟨callee, cargs, argTypes⟩ := c
      cases callee with
      | value f => cases f <;> simp [effect] at h2
      | invoke x m => simp [effect] at h2
      | builtin b => cases b <;> first | (simp [effect] at h2; done) | (exfalso; revert h2; simp only [effect]; cases E.ap <;> simp; done)
  exact Res.sat_takes hs h

theorem takes_mapS {f : St → St} {R : Res} {v : AV} {u : St} (h : (R.mapS f).takes v u) : ∃ w, u = f w := by
  cases R with
  | fail => exact h.elim
  | ok x y => exact ⟨y, h.2⟩
  | need C x y => exact ⟨y, h.2.2⟩
theorem stp_tok {o : Oper} {s s' : St} (h0 : effH E o.op ≤ 2) (h : Stp E ops o s s') (κ : St) : Stp E ops o (s.withK κ) (s'.withK κ) := by
  obtain ⟨hd, ⟨hw, x, w, ht, rfl⟩ | ⟨hw, rfl⟩⟩ := h
  · refine ⟨hd, .inl ⟨hw, x, w.withK κ, ?_, put_withK ..⟩⟩
    rw [opG_tok κ h0]
    exact Res.takes_map ht
  · exact ⟨hd, .inr ⟨hw, put_withK ..⟩⟩
theorem stp_app {o : Oper} {s s' : St} (h0 : effH E o.op = 4) (h : Stp E ops o s s') (κ : St) : Stp E ops o (s.withH κ) (s'.withH κ) := by
  obtain ⟨hd, ⟨hw, x, w, ht, rfl⟩ | ⟨hw, rfl⟩⟩ := h
  · refine ⟨hd, .inl ⟨hw, x, w.withH κ, ?_, put_withH ..⟩⟩
    rw [opG_app κ h0]
    exact Res.takes_map ht
  · exact ⟨hd, .inr ⟨hw, put_withH ..⟩⟩
/-- what a step puts into its slot, where it leaves the owners, the blocks alone -/
theorem stp_putK {o : Oper} {s s' : St} (h0 : effH E o.op ≤ 2) (h : Stp E ops o s s') : ∃ (v : AV) (u : St), s' = u.put o.dst v ∧ u.t = s.t ∧ u.n = s.n ∧ u.k = s.k ∧ u.nk = s.nk := by
  obtain ⟨hd, ⟨hw, x, w, ht, rfl⟩ | ⟨hw, rfl⟩⟩ := h
  · have h1 := Res.sat_takes opG_t ht
    have h2 := opG_tok (s := s) s h0
    rw [withK_self] at h2
    rw [h2] at ht
    obtain ⟨w', rfl⟩ := takes_mapS ht
    exact ⟨x, _, rfl, h1.1, h1.2, rfl, rfl⟩
  · exact ⟨_, s, rfl, rfl, rfl, rfl, rfl⟩
theorem stp_putH {o : Oper} {s s' : St} (h0 : effH E o.op = 4) (h : Stp E ops o s s') : ∃ (v : AV) (u : St), s' = u.put o.dst v ∧ u.t = s.t ∧ u.n = s.n ∧ u.h = s.h ∧ u.nx = s.nx := by
  obtain ⟨hd, ⟨hw, x, w, ht, rfl⟩ | ⟨hw, rfl⟩⟩ := h
  · have h1 := Res.sat_takes opG_t ht
    have h2 := opG_app (s := s) s h0
    rw [withH_self] at h2
    rw [h2] at ht
    obtain ⟨w', rfl⟩ := takes_mapS ht
    exact ⟨x, _, rfl, h1.1, h1.2, rfl, rfl⟩
  · exact ⟨_, s, rfl, rfl, rfl, rfl, rfl⟩
theorem put_inj_h {w w' : St} {d : Option Nat} {v v' : AV} (h : w.put d v = w'.put d v') : w.h = w'.h ∧ w.nx = w'.nx ∧ w.k = w'.k ∧ w.nk = w'.nk := by
  have h1 := congrArg St.h h
  have h2 := congrArg St.nx h
  have h3 := congrArg St.k h
  have h4 := congrArg St.nk h
  cases d <;> exact ⟨h1, h2, h3, h4⟩
/-- THE EXCHANGE: x ahead of y, that do not touch one another: y ahead of x. -/
theorem stp_swap {x y : Oper} {s s1 s2 : St} (hw : Wf s) (hap : apartT ops x y = true) (hcl : clash (effH E x.op) (effH E y.op) = false) (h1 : Stp E ops x s s1) (h2 : Stp E ops y s1 s2) :
    ∃ u1 u2, Stp E ops y s u1 ∧ Stp E ops x u1 u2 ∧ Eqv s2 u2 := by
  simp only [apartT, Bool.and_eq_true] at hap
  obtain ⟨hx, hy⟩ := hap
  have hx1 : ∀ t, x.dst = some t → looksT ops y t = false := by
    intro t ht; rw [ht] at hx; simp only [Bool.and_eq_true, Bool.not_eq_true'] at hx; exact hx.1
  have hx2 : ∀ t, x.dst = some t → y.dst ≠ some t := by
    intro t ht e; rw [ht, e] at hx; simp at hx
  have hy1 : ∀ t, y.dst = some t → looksT ops x t = false := by
    intro t ht; rw [ht] at hy; simpa using hy
  have hy2 : ∀ t, y.dst = some t → x.dst ≠ some t := fun t ht e => hx2 t e ht
  obtain ⟨v, w1, rfl, ht1, hn1, hk1⟩ := stp_put h1
  -- the memory behind x is w1's; y upon s's slots and that memory
  have back : ∀ {w w' : St}, Stp E ops y (w.put x.dst v) w' → w.t = s.t → w.n = s.n → ∃ u, Stp E ops y w u ∧ Eqv (u.put x.dst v) w' := by
    intro w w' h ht hn
    cases hxd : x.dst with
    | none => rw [hxd] at h; exact ⟨w', h, Eqv.refl _⟩
    | some t =>
      rw [hxd] at h
      -- take the slot back
      have hq := stp_withT (d := some t) (v := w.t.get t) h (fun q e => by injection e with e; subst e; exact hx1 t hxd) (fun q e => by injection e with e; subst e; exact hx2 t hxd)
      obtain ⟨u, hu1, hu2⟩ := hq
      have e1 : Eqv ((w.put (some t) v).put (some t) (w.t.get t)) w := by
        refine ⟨rfl, fun q => ?_, rfl, rfl, rfl, rfl⟩
        simp only [put_get]
        by_cases e : some t = some q
        · rw [if_pos e]; injection e with e; rw [e]
        · rw [if_neg e, if_neg e]
      obtain ⟨u', hu3, hu4⟩ := stp_eqv e1 hu1
      refine ⟨u', hu3, ?_⟩
      have e2 : Eqv (w'.put (some t) (w.t.get t)) u' := hu2.trans hu4
      refine (e2.symm.put (some t) v).trans ?_
      -- y has left x's slot alone
      obtain ⟨vy, wy, rfl, hty, hny, _⟩ := stp_put h
      refine ⟨by simp only [put_n], fun q => ?_, ?_, ?_, ?_, ?_⟩
      · simp only [put_get]
        by_cases e : some t = some q
        · rw [if_pos e, if_neg (by rw [← e]; exact hx2 t hxd), hty, put_get, if_pos e]
        · rw [if_neg e, if_neg e]
      all_goals cases y.dst <;> rfl
  by_cases hxk : effH E x.op ≤ 2 ∧ effH E y.op = 4
  · obtain ⟨hxk, hy4⟩ := hxk
    obtain ⟨v', w1', e1, _, _, k1, k2⟩ := stp_putK hxk h1
    obtain ⟨_, _, m3, m4⟩ := put_inj_h e1
    have hk1' : w1.k = s.k := m3.trans k1
    have hk2' : w1.nk = s.nk := m4.trans k2
    have ew : w1.withH s = s := by
      cases s; cases w1; simp only at ht1 hn1 hk1' hk2'; subst ht1; subst hn1; subst hk1'; subst hk2'; rfl
    obtain ⟨u, hu1, hu2⟩ := back h2 ht1 hn1
    obtain ⟨vy, wy, rfl, hty, hny, hyh, hynx⟩ := stp_putH hy4 hu1
    have hy' := stp_app hy4 hu1 s
    rw [ew, put_withH] at hy'
    have ey : s.withK wy = wy.withH s := by
      cases s; cases w1; cases wy; simp only at ht1 hn1 hty hny; subst ht1; subst hn1; subst hty; subst hny; rfl
    have hx' := stp_tok hxk h1 wy
    rw [ey] at hx'
    obtain ⟨z, hz1, hz2⟩ := stp_withT (d := y.dst) (v := vy) hx' hy1 hy2
    refine ⟨_, z, hy', hz1, hu2.symm.trans (Eqv.trans ?_ hz2)⟩
    refine ⟨by simp only [put_n, put_withK]; exact hny, fun q => ?_, ?_, ?_, ?_, ?_⟩
    · simp only [put_get, put_withK]
      by_cases e1 : x.dst = some q
      · rw [if_pos e1, if_neg (fun e3 => hx2 q e1 e3), if_pos e1]
      · rw [if_neg e1, if_neg e1]
        split
        · rfl
        · show wy.t.get q = w1.t.get q
          rw [hty]
    · rw [put_withK]; cases y.dst <;> cases x.dst <;> exact hyh
    · rw [put_withK]; cases y.dst <;> cases x.dst <;> exact hynx
    · rw [put_withK]; cases y.dst <;> cases x.dst <;> rfl
    · rw [put_withK]; cases y.dst <;> cases x.dst <;> rfl
  by_cases hyk : effH E x.op = 4 ∧ effH E y.op ≤ 2
  · obtain ⟨hx4, hyk⟩ := hyk
    obtain ⟨v', w1', e1, _, _, k1, k2⟩ := stp_putH hx4 h1
    obtain ⟨m1, m2, _, _⟩ := put_inj_h e1
    have hk1' : w1.h = s.h := m1.trans k1
    have hk2' : w1.nx = s.nx := m2.trans k2
    have ew : w1.withK s = s := by
      cases s; cases w1; simp only at ht1 hn1 hk1' hk2'; subst ht1; subst hn1; subst hk1'; subst hk2'; rfl
    obtain ⟨u, hu1, hu2⟩ := back h2 ht1 hn1
    obtain ⟨vy, wy, rfl, hty, hny, hyh, hynx⟩ := stp_putK hyk hu1
    have hy' := stp_tok hyk hu1 s
    rw [ew, put_withK] at hy'
    have ey : s.withH wy = wy.withK s := by
      cases s; cases w1; cases wy; simp only at ht1 hn1 hty hny; subst ht1; subst hn1; subst hty; subst hny; rfl
    have hx' := stp_app hx4 h1 wy
    rw [ey] at hx'
    obtain ⟨z, hz1, hz2⟩ := stp_withT (d := y.dst) (v := vy) hx' hy1 hy2
    refine ⟨_, z, hy', hz1, hu2.symm.trans (Eqv.trans ?_ hz2)⟩
    refine ⟨by simp only [put_n, put_withH]; exact hny, fun q => ?_, ?_, ?_, ?_, ?_⟩
    · simp only [put_get, put_withH]
      by_cases e1 : x.dst = some q
      · rw [if_pos e1, if_neg (fun e3 => hx2 q e1 e3), if_pos e1]
      · rw [if_neg e1, if_neg e1]
        split
        · rfl
        · show wy.t.get q = w1.t.get q
          rw [hty]
    · rw [put_withH]; cases y.dst <;> cases x.dst <;> rfl
    · rw [put_withH]; cases y.dst <;> cases x.dst <;> rfl
    · rw [put_withH]; cases y.dst <;> cases x.dst <;> exact hyh
    · rw [put_withH]; cases y.dst <;> cases x.dst <;> exact hynx
  by_cases hy0 : effH E y.op = 0
  · -- y asks no memory
    obtain ⟨u, hu1, hu2⟩ := back h2 ht1 hn1
    have hu3 := stp_mem hy0 hu1 s
    have e : w1.withM s = s := by
      cases s; cases w1
      simp only at ht1 hn1
      subst ht1; subst hn1; rfl
    rw [e] at hu3
    obtain ⟨vy, wy, hue, hty, hny, hky⟩ := stp_put hu1
    have hwy := hky (by omega)
    subst hwy
    -- now x behind y
    obtain ⟨z, hz1, hz2⟩ := stp_withT (d := y.dst) (v := vy) h1 hy1 hy2
    have e2 : u.withM s = s.put y.dst vy := by rw [hue, put_withM, e]
    refine ⟨u.withM s, z, hu3, by rw [e2]; exact hz1, ?_⟩
    refine hu2.symm.trans (Eqv.trans ?_ hz2)
    rw [hue]
    refine ⟨by simp only [put_n], fun q => ?_, ?_, ?_, ?_, ?_⟩
    · simp only [put_get]
      by_cases e1 : x.dst = some q
      · rw [if_pos e1, if_neg (fun e3 => hx2 q e1 e3), if_pos e1]
      · rw [if_neg e1, if_neg e1]
    all_goals cases y.dst <;> cases x.dst <;> rfl
  · by_cases hx0 : effH E x.op ≤ 1
    · -- x turns no memory
      have hw1 := hk1 hx0
      subst hw1
      obtain ⟨u, hu1, hu2⟩ := back h2 rfl rfl
      obtain ⟨vy, wy, hue, hty, hny, hky⟩ := stp_put hu1
      have key : Stp E ops x wy (wy.put x.dst v) := by
        by_cases hx00 : effH E x.op = 0
        · have := stp_mem hx00 h1 wy
          have e : w1.withM wy = wy := by
            cases w1; cases wy
            simp only at hty hny
            subst hty; subst hny; rfl
          rw [put_withM, e] at this
          exact this
        · -- x asks; y asks, too, or makes a block
          have hx1' : effH E x.op = 1 := by omega
          have hy12 : effH E y.op = 1 ∨ effH E y.op = 2 := by
            rw [hx1'] at hcl
            have h4 : effH E y.op ≠ 4 := fun h => hxk ⟨by omega, h⟩
            generalize effH E y.op = ey at hcl hy0 h4
            match ey with
            | 0 => exact absurd rfl hy0
            | 1 => exact .inl rfl
            | 2 => exact .inr rfl
            | 3 => simp [clash] at hcl
            | 4 => exact absurd rfl h4
            | n + 5 => simp [clash] at hcl
          rcases hy12 with hy1' | hy2'
          · rw [hky (by omega)]; exact h1
          · have hnew : wy = w1 ∨ ∃ b, wy = w1.new b := by
              obtain ⟨hd, ⟨hwt, q, w, ht, he⟩ | ⟨hwt, he⟩⟩ := hu1
              · obtain ⟨b, hb⟩ := eff2_new hy2' ht
                refine .inr ⟨b, ?_⟩
                have hm : w.h = wy.h ∧ w.nx = wy.nx ∧ w.k = wy.k ∧ w.nk = wy.nk := by
                  have := hue.symm.trans he
                  have h1 := congrArg St.h this
                  have h2 := congrArg St.nx this
                  have h3 := congrArg St.k this
                  have h4 := congrArg St.nk this
                  cases hyd : y.dst <;> rw [hyd] at h1 h2 h3 h4 <;> exact ⟨h1.symm, h2.symm, h3.symm, h4.symm⟩
                obtain ⟨m1, m2, m3, m4⟩ := hm
                have htw := Res.sat_takes opG_t ht
                subst hb
                cases wy
                simp only at m1 m2 m3 m4 hty hny
                subst m1; subst m2; subst m3; subst m4; subst hty; subst hny
                rfl
              · left
                have := hue.symm.trans he
                have g1 := congrArg St.h this
                have g2 := congrArg St.nx this
                have g3 := congrArg St.k this
                have g4 := congrArg St.nk this
                cases wy; cases w1
                simp only at hty hny
                subst hty; subst hny
                cases hyd : y.dst <;> rw [hyd] at g1 g2 g3 g4 <;> (simp only [St.put] at g1 g2 g3 g4; subst g1; subst g2; subst g3; subst g4; rfl)
            rcases hnew with rfl | ⟨b, rfl⟩
            · exact h1
            · obtain ⟨hd, ⟨hwt, q, w, ht, he⟩ | ⟨hwt, he⟩⟩ := h1
              · have hkw := Res.sat_takes (opG_keep (by omega)) ht
                subst hkw
                have hnb := opG_new (E := E) hx0 (hw _ (Nat.le_refl _)) b ht
                refine ⟨by cases hq : x.dst <;> simp_all [dstOk, St.new], .inl ⟨by rw [← hwt]; rfl, q, _, hnb, ?_⟩⟩
                -- the same value
                cases hxd : x.dst with
                | none => rfl
                | some t =>
                  rw [hxd] at he
                  have := congrArg (fun z : St => z.t.get t) he
                  simp only [put_get, if_true] at this
                  rw [this]
              · refine ⟨by cases hq : x.dst <;> simp_all [dstOk, St.new], .inr ⟨by rw [← hwt]; rfl, ?_⟩⟩
                cases hxd : x.dst with
                | none => rfl
                | some t =>
                  rw [hxd] at he
                  have := congrArg (fun z : St => z.t.get t) he
                  simp only [put_get, if_true] at this
                  rw [this]
      obtain ⟨z, hz1, hz2⟩ := stp_withT (d := y.dst) (v := vy) key hy1 hy2
      refine ⟨u, z, hu1, by rw [hue]; exact hz1, ?_⟩
      refine hu2.symm.trans (Eqv.trans ?_ hz2)
      rw [hue]
      refine ⟨by simp only [put_n], fun q => ?_, ?_, ?_, ?_, ?_⟩
      · simp only [put_get]
        by_cases e1 : x.dst = some q
        · rw [if_pos e1, if_neg (fun e3 => hx2 q e1 e3), if_pos e1]
        · rw [if_neg e1, if_neg e1]
      all_goals cases y.dst <;> cases x.dst <;> rfl
    · exfalso
      revert hcl
      generalize effH E x.op = ex at hx0 hxk hyk
      generalize effH E y.op = ey at hy0 hxk hyk
      intro hcl
      unfold clash at hcl
      split at hcl <;> first | omega | cases hcl
end
end Go.Ab
