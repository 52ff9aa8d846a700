/- The symbolic evaluator: operations, calls that turn memory among them. -/
import Derived.Test.YtejepcnoflahkaaGreatDoorAbSound9
namespace Go.Ab
set_option linter.unusedVariables false
section
variable {P : Program} {E : Env} {s : St} {a : Act} {X : Cx}

theorem Rel.hrel (r : Rel s a X) : HRel s.mem X := ⟨r.heap, r.ow, r.mu, r.kap, r.kn, r.tok⟩
theorem HRel.onto (r : Rel s a X) {m : St} {Y : Cx} (h : HRel m Y) (e : Ext2 X Y) : Rel (s.onto m) a Y where
  size := r.size
  dfr := r.dfr
  tmps := fun t => (r.tmps t).mono e
  heap := fun i blk hi => by
    have hi : (match Nat.blt i m.nx with | true => m.h i | false => none) = some blk := hi
    split at hi
    · exact h.heap i blk hi
    · cases hi
  ow := fun i blk b hi hb => by
    have hi : (match Nat.blt i m.nx with | true => m.h i | false => none) = some blk := hi
    split at hi
    · exact h.ow i blk b hi hb
    · cases hi
  mu := h.mu
  kap := h.kap
  kn := h.kn
  tok := h.tok

theorem hcall_gives {G : World → Prop} {o : Oper} (hg : GB G X) (r : Rel s a X) {f : FuncId} {as : List AV} {cargs : List Value} {v : AV} {m' : St} (hc : callable P f = true) (hp : HC P G f as s.mem v m') (ha : RepL X false as cargs)
    (hrun : (execOp a.eval o).run P X.w = (callFunc f cargs.toArray).run P X.w) : Gives P o a X v (s.onto m') := by
  intro next Q hn
  unfold Oper.wp
  rw [hrun, run_callFunc hc, Oper.upon_enter]
  refine (hp X cargs hg r.hrel ha).mono ?_
  rintro e w' ⟨cv, Y, rfl, rfl, hr, hv, hf⟩
  exact hn cv Y (HRel.onto r hr hf.ext) hv hf

theorem isH_call {op : Op} (h : isH E op = true) : (∃ g xs ts, op = .call { callee := .value (.func g), args := xs, argTypes := ts } ∧ E.hf g = true) ∨ ∃ t xs ts, op = .call { callee := .value (.tmp t), args := xs, argTypes := ts } := by
  unfold isH at h
  split at h
  · exact .inl ⟨_, _, _, rfl, h⟩
  · exact .inr ⟨_, _, _, rfl⟩
  · cases h
theorem opG_h {op : Op} (h : isH E op = true) : opG E op s = hcallA E s op := by unfold opG; rw [h]
theorem opG_f {op : Op} (h : isH E op = false) : opG E op s = opF E op s := by unfold opG; rw [h]
theorem effH_h {op : Op} (h : isH E op = true) : effH E op = 3 := by unfold effH; rw [h]
theorem effH_f {op : Op} (h : isH E op = false) : effH E op = effect E op := by unfold effH; rw [h]

theorem opG_sound (hE : EnvOk P E) (hgb : GB E.G X) (r : Rel s a X) (o : Oper) : (opG E o.op s).sat (Gives P o a X) := by
  cases h : isH E o.op with
  | false => rw [opG_f h]; exact opF_sound hE hgb r o
  | true =>
    rw [opG_h h]
    obtain ⟨dst, op, type, pos, after, guard⟩ := o
    rcases isH_call h with ⟨g, xs, ts, hop, hg⟩ | ⟨t, xs, ts, hop⟩
    rotate_left
    · simp only at hop
      subst hop
      simp only [hcallA]
      refine evF_sat fun v hv => evsF_sat fun l hl => ?_
      have hargs := evs_rep r hl
      have hmap : xs.map a.eval = (xs.toList.map a.eval).toArray := arr_map _ _
      have hc := ev_rep r hv
      generalize hcv : a.eval (.tmp t) = cv at hc
      split
      · rename_i g first cap
        cases hc with | clo h1 h2 =>
        rename_i fv cv'
        have hrun : (execOp a.eval ⟨dst, .call { callee := .value (.tmp t), args := xs, argTypes := ts }, type, pos, after, guard⟩).run P X.w = (callFunc g (fv ++ xs.toList.map a.eval ++ cv').toArray).run P X.w := by
          simp only [execOp, resolve, hmap, hcv, Deferred.ofValue, Sem.run_bind, Sem.run_pure, Result.andThen_ok, invoke]
          congr 2
          simp
        split
        · rename_i hg
          have ht := hE.h g (first ++ l ++ cap) s.mem hg
          cases hR : E.H g (first ++ l ++ cap) s.mem with
          | fail => trivial
          | ok v m' => rw [hR] at ht; exact hcall_gives hgb r ht.1 ht.2 ((h1.append hargs).append h2) hrun
          | need C v m' => rw [hR] at ht; exact fun hC => hcall_gives hgb r (ht hC).1 (ht hC).2 ((h1.append hargs).append h2) hrun
        · exact callS_sound hE hgb r ((h1.append hargs).append h2) hrun
      · trivial
    simp only at hop
    subst hop
    refine evsF_sat fun l hl => ?_
    have hargs := evs_rep r hl
    have hmap : xs.map a.eval = (xs.toList.map a.eval).toArray := arr_map _ _
    have ht := hE.h g l s.mem hg
    have hrun : (execOp a.eval ⟨dst, .call { callee := .value (.func g), args := xs, argTypes := ts }, type, pos, after, guard⟩).run P X.w = (callFunc g (xs.toList.map a.eval).toArray).run P X.w := by
      simp only [execOp, resolve, hmap, Deferred.ofValue, Sem.run_bind, Sem.run_pure, Result.andThen_ok, invoke, Act.eval]
      simp
    cases hR : E.H g l s.mem with
    | fail => trivial
    | ok v m' => rw [hR] at ht; exact hcall_gives hgb r ht.1 ht.2 hargs hrun
    | need C v m' => rw [hR] at ht; exact fun hC => hcall_gives hgb r (ht hC).1 (ht hC).2 hargs hrun

theorem opG_keep {op : Op} (h : effH E op ≤ 1) : (opG E op s).sat (fun _ s' => s' = s) := by
  cases hh : isH E op with
  | true => rw [effH_h hh] at h; omega
  | false => rw [effH_f hh] at h; rw [opG_f hh]; exact opF_keep h
theorem opG_mem {op : Op} (h : effH E op = 0) (u : St) : opG E op (s.withM u) = (opG E op s).mapS (fun _ => s.withM u) := by
  cases hh : isH E op with
  | true => rw [effH_h hh] at h; omega
  | false => rw [effH_f hh] at h; rw [opG_f hh, opG_f hh]; exact opF_mem h u
theorem opG_t {op : Op} : (opG E op s).sat (fun _ s' => s'.t = s.t ∧ s'.n = s.n) := by
  cases hh : isH E op with
  | false => rw [opG_f hh]; exact opF_t
  | true =>
    rw [opG_h hh]
    rcases isH_call hh with ⟨g, xs, ts, rfl, hg⟩ | ⟨t, xs, ts, rfl⟩
    · refine evsF_sat' fun args => ?_
      cases E.H g args s.mem <;> first | trivial | exact ⟨rfl, rfl⟩ | exact fun _ => ⟨rfl, rfl⟩
    · simp only [hcallA]
      refine evF_sat' fun v => evsF_sat' fun args => ?_
      split
      · rename_i g first cap
        split
        · cases E.H g (first ++ args ++ cap) s.mem <;> first | trivial | exact ⟨rfl, rfl⟩ | exact fun _ => ⟨rfl, rfl⟩
        · exact Res.sat_imp (sat_const (callS_st s s rfl)) fun v s' e => by subst e; exact ⟨rfl, rfl⟩
      · trivial
theorem opG_new {op : Op} (h : effH E op ≤ 1) (hf : s.h s.nx = none) (b : Blk) {v : AV} {s' : St} (ht : (opG E op s).takes v s') : (opG E op (s.new b)).takes v (s.new b) := by
  cases hh : isH E op with
  | true => rw [effH_h hh] at h; omega
  | false => rw [effH_f hh] at h; rw [opG_f hh] at ht ⊢; exact opF_new h hf b ht
theorem opG_tau {op : Op} {τ : TT} (h : ∀ x ∈ op.operands.toList, ev (s.withT τ) x = ev s x) : opG E op (s.withT τ) = (opG E op s).mapS (·.withT τ) := by
  cases hh : isH E op with
  | false => rw [opG_f hh, opG_f hh]; exact opF_tau h
  | true =>
    rw [opG_h hh, opG_h hh]
    rcases isH_call hh with ⟨g, xs, ts, rfl, hg⟩ | ⟨t, xs, ts, rfl⟩
    rotate_left
    · have h1 : evs (s.withT τ) xs.toList = evs s xs.toList := evs_congr (fun x hx => h x (by simp [Op.operands, Call.operands]; exact .inr (by simpa using hx)))
      have h2 : ev (s.withT τ) (.tmp t) = ev s (.tmp t) := h _ (by simp [Op.operands, Call.operands])
      simp only [hcallA, evsF_eq, evF_eq, h1, h2]
      cases ev s (.tmp t) with
      | none => rfl
      | some v =>
        cases evs s xs.toList with
        | none => rfl
        | some args =>
          simp only
          cases v <;> try rfl
          rename_i g first cap
          simp only
          cases E.hf g with
          | true =>
            have : (s.withT τ).mem = s.mem := rfl
            rw [this]
            simp only
            cases E.H g (first ++ args ++ cap) s.mem <;> rfl
          | false =>
            simp only
            rw [mapS_self _ (callS_st s s rfl)]
            exact callS_st s (s.withT τ) rfl
    have h1 : evs (s.withT τ) xs.toList = evs s xs.toList := evs_congr (fun x hx => h x (by simp [Op.operands, Call.operands]; exact .inr (by simpa using hx)))
    simp only [hcallA, evsF_eq, h1]
    cases evs s xs.toList with
    | none => rfl
    | some args =>
      simp only
      have : (s.withT τ).mem = s.mem := rfl
      rw [this]
      cases E.H g args s.mem <;> rfl
end
end Go.Ab
