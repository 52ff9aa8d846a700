/- The symbolic evaluator run on what is known: code that is carried out, not asked. -/
import Derived.Test.YtejepcnoflahkaaGreatDoorAbFrame
namespace Go.Ab
set_option linter.unusedVariables false

/-! ### Running -/
def stepR {β : Type} (E : Env) (o : Oper) (s : St) (K : St → Option β) : Option β :=
  match dstOk s o.dst with
  | false => none
  | true => match opG E o.op s with
    | .fail => none
    | .ok v s' => force v fun v => forceS s' fun s' => s'.putK o.dst v K
    | @Res.need C d v s' => match d with
      | .isTrue _ => force v fun v => forceS s' fun s' => s'.putK o.dst v K
      | .isFalse _ => none
def opsR {β : Type} (E : Env) (ops : List Oper) : List Oper → St → (St → Option β) → Option β
  | [], s, K => K s
  | o :: rest, s, K => match wants ops s o with
    | none => none
    | some true => stepR E o s fun s' => opsR E ops rest s' K
    | some false => match dstOk s o.dst with
      | false => none
      | true => s.putK o.dst (.tup []) fun s' => opsR E ops rest s' K
def loopR {β : Type} (f : St → (Exit → St → Option β) → Option β) : Nat → St → (Exit → St → Option β) → Option β
  | 0, _, _ => none
  | n + 1, s, K => f s fun e s' => match e with
    | .normal => loopR f n s' K
    | e => K e s'
def runC {β : Type} (E : Env) (k : Nat) : Code → St → (Exit → St → Option β) → Option β
  | .skip, s, K => K .normal s
  | .region _ ops _, s, K => opsR E ops.toList ops.toList s (K .normal)
  | .seq a b, s, K => runC E k a s fun e s' => match e with
    | .normal => runC E k b s' K
    | e => K e s'
  | .cond c a b, s, K => match ev s c with
    | some (.bool true) => runC E k a s K
    | some (.bool false) => runC E k b s K
    | _ => none
  | .block id b, s, K => runC E k b s fun e s' => match e with
    | .exit id' => match Nat.beq id' id with
      | true => K .normal s'
      | false => K (.exit id') s'
    | e => K e s'
  | .loop b, s, K => loopR (fun s K => runC E k b s K) k s K
  | .exit id, s, K => K (.exit id) s
  | .ret, s, K => K .ret s
  | _, _, _ => none
/-- all regions of a piece of code that draw their order: any order does the same -/
def okC (E : Env) : Code → Bool
  | .region _ ops draw => match draw with
    | false => true
    | true => commutes E ops.toList
  | .seq a b => match okC E a with | true => okC E b | false => false
  | .cond _ a b => match okC E a with | true => okC E b | false => false
  | .block _ b => okC E b
  | .loop b => okC E b
  | _ => true

section
variable {P : Program} {E : Env}
/-- what a run says of code -/
def Runs (P : Program) (G : World → Prop) (c : Code) (s : St) (e : Exit) (s' : St) : Prop := SemC P G c s fun e1 s1 => e1 = e ∧ s1 = s'

theorem stepR_stp {β : Type} {ops : List Oper} {o : Oper} {s : St} {K : St → Option β} {y : β} (hw : wants ops s o = some true) (h : stepR E o s K = some y) : ∃ s', Stp E ops o s s' ∧ K s' = some y := by
  unfold stepR at h
  split at h
  · cases h
  · rename_i hd
    split at h
    · cases h
    · rename_i v s' hr
      simp only [force_eq, forceS_eq, St.putK_eq] at h
      exact ⟨_, ⟨hd, .inl ⟨hw, v, s', by rw [hr]; exact ⟨rfl, rfl⟩, rfl⟩⟩, h⟩
    · rename_i C d v s' hr
      split at h
      · rename_i hC
        simp only [force_eq, forceS_eq, St.putK_eq] at h
        exact ⟨_, ⟨hd, .inl ⟨hw, v, s', by rw [hr]; exact ⟨hC, rfl, rfl⟩, rfl⟩⟩, h⟩
      · cases h
theorem opsR_ex {β : Type} {ops : List Oper} {K : St → Option β} {y : β} : ∀ {l : List Oper} {k : Nat} {s : St}, l = ops.drop k → opsR E ops l s K = some y → ∃ s', Ex E ops (List.range' k l.length) s s' ∧ K s' = some y
  | [], k, s, _, h => ⟨s, rfl, h⟩
  | o :: l, k, s, hl, h => by
    have hk : ops[k]? = some o := by
      have : (ops.drop k)[0]? = some o := by rw [← hl]; rfl
      simpa using this
    have hl' : l = ops.drop (k + 1) := by
      have := congrArg List.tail hl
      simpa using this
    have next : ∀ {u : St}, Stp E ops o s u → opsR E ops l u K = some y → ∃ s', Ex E ops (List.range' k (o :: l).length) s s' ∧ K s' = some y := by
      intro u hs hr
      obtain ⟨s', h1, h2⟩ := opsR_ex hl' hr
      refine ⟨s', ?_, h2⟩
      rw [List.length_cons, List.range'_succ]
      exact ⟨o, u, hk, hs, h1⟩
    simp only [opsR] at h
    split at h
    · cases h
    · rename_i hw
      obtain ⟨u, h1, h2⟩ := stepR_stp hw h
      exact next h1 h2
    · rename_i hw
      split at h
      · cases h
      · rename_i hd
        rw [St.putK_eq] at h
        exact next ⟨hd, .inr ⟨hw, rfl⟩⟩ h
theorem Runs.seq {c d : Code} {s s1 s2 : St} {e : Exit} (h1 : Runs P E.G c s .normal s1) (h2 : Runs P E.G d s1 e s2) : Runs P E.G (.seq c d) s e s2 := by
  intro a X hgb r
  refine wp_seq (wp_mono (h1 a X hgb r) ?_)
  rintro _ a' w' ⟨s', Y, rfl, ⟨rfl, rfl⟩, hr, hf⟩
  refine wp_mono (h2 a' Y (hf.gb hgb) hr) ?_
  rintro _ a'' w'' ⟨s'', Z, rfl, ⟨rfl, rfl⟩, hr', hf'⟩
  exact ⟨_, Z, rfl, ⟨rfl, rfl⟩, hr', hf.trans hf'⟩
theorem Runs.seq' {c d : Code} {s s1 : St} {e : Exit} (he : e ≠ .normal) (h1 : Runs P E.G c s e s1) : Runs P E.G (.seq c d) s e s1 := by
  intro a X hgb r
  refine wp_seq (wp_mono (h1 a X hgb r) ?_)
  rintro e1 a' w' ⟨s', Y, rfl, ⟨q1, rfl⟩, hr, hf⟩
  subst q1
  cases e1 <;> first | exact absurd rfl he | exact ⟨_, Y, rfl, ⟨rfl, rfl⟩, hr, hf⟩
def RN (P : Program) (G : World → Prop) (c : Code) : Nat → St → Exit → St → Prop
  | 0, _, _, _ => False
  | n + 1, s, e, s2 => (∃ s1, Runs P G c s .normal s1 ∧ RN P G c n s1 e s2) ∨ (e ≠ .normal ∧ Runs P G c s e s2)
theorem RN.rounds {c : Code} {X0 : Cx} : ∀ {n : Nat} {s s2 : St} {e : Exit}, RN P E.G c n s e s2 → ∀ (a : Act) (X : Cx), GB E.G X → Rel s a X → Fr X0 X →
    Code.rounds P c (fun e1 a' w' => ∃ s' Y, Y.w = w' ∧ (e1 = e ∧ s' = s2) ∧ Rel s' a' Y ∧ Fr X0 Y) n a X.w
  | 0, _, _, _, h => h.elim
  | n + 1, s, s2, e, h => by
    intro a X hgb r hf
    rcases h with ⟨s1, h1, h2⟩ | ⟨he, h1⟩
    · refine wp_mono (h1 a X hgb r) ?_
      rintro _ a' w' ⟨s', Y, rfl, ⟨rfl, rfl⟩, hr, hf'⟩
      exact RN.rounds h2 a' Y (hf'.gb hgb) hr (hf.trans hf')
    · refine wp_mono (h1 a X hgb r) ?_
      rintro e1 a' w' ⟨s', Y, rfl, ⟨q1, rfl⟩, hr, hf'⟩
      subst q1
      cases e1 <;> first | exact absurd rfl he | exact ⟨_, Y, rfl, ⟨rfl, rfl⟩, hr, hf.trans hf'⟩
theorem RN.runs {c : Code} {n : Nat} {s s2 : St} {e : Exit} (h : RN P E.G c n s e s2) : Runs P E.G (.loop c) s e s2 := fun a X hgb r => wp_loop_rounds n (h.rounds a X hgb r (Fr.refl X))
theorem loopR_rn {β : Type} {c : Code} {f : St → (Exit → St → Option β) → Option β} (hf : ∀ {s : St} {K : Exit → St → Option β} {y : β}, f s K = some y → ∃ e s', Runs P E.G c s e s' ∧ K e s' = some y) :
    ∀ {n : Nat} {s : St} {K : Exit → St → Option β} {y : β}, loopR f n s K = some y → ∃ e s', RN P E.G c n s e s' ∧ K e s' = some y
  | 0, _, _, _, h => by cases h
  | n + 1, s, K, y, h => by
    obtain ⟨e, s', h1, h2⟩ := hf (show f s _ = some y from h)
    cases e with
    | normal =>
      obtain ⟨e, s2, h3, h4⟩ := loopR_rn hf (show loopR f n s' K = some y from h2)
      exact ⟨e, s2, .inl ⟨s', h1, h3⟩, h4⟩
    | _ => exact ⟨_, s', .inr ⟨by simp, h1⟩, h2⟩

theorem region_runs (hE : EnvOk P E) (hm : P.follows .mixedOrders = true) {id : Nat} {ops : Array Oper} {draw : Bool} {s s' : St} (hok : okC E (.region id ops draw) = true) (h1 : Ex E ops.toList (List.range ops.size) s s') : Runs P E.G (.region id ops draw) s .normal s' := by
  intro a X hgb r
  cases draw with
  | false => exact wp_region (ex_text hE hgb r h1 fun a' Y hr hf => ⟨s', Y, rfl, ⟨rfl, rfl⟩, hr, hf⟩)
  | true =>
    have hc : commutes E ops.toList = true := hok
    refine wp_region_any hm ?_
    have hr' := (Same.drew X).rel r
    have hun : unlisted (Array.replicate ops.size false) ops.size = List.range ops.size := by
      simp only [unlisted]
      rw [List.filter_eq_self]
      intro i hi
      have := List.mem_range.1 hi
      simp [Array.getD_eq_getD_getElem?, this]
    refine any_sound hE hc ops.size (X := X.drew) (by simp) ?_ (by rw [hun]; simp) ((Same.drew X).fr.gb hgb) hr' (by rw [hun]; exact h1) (fun a' Y hr hf => ⟨s', Y, rfl, ⟨rfl, rfl⟩, hr, (Same.drew X).fr.trans hf⟩)
    intro i o hi hl
    exfalso
    have := (List.getElem?_eq_some_iff.1 hi).1
    simp only [Array.length_toList] at this
    simp [Array.getD_eq_getD_getElem?, this] at hl

theorem runC_sound {β : Type} (hE : EnvOk P E) (hm : P.follows .mixedOrders = true) (k : Nat) : ∀ (c : Code), okC E c = true → ∀ {s : St} {K : Exit → St → Option β} {y : β}, runC E k c s K = some y → ∃ e s', Runs P E.G c s e s' ∧ K e s' = some y
  | .skip, _, s, K, y, h => ⟨.normal, s, fun a X hgb r => wp_skip ⟨s, X, rfl, ⟨rfl, rfl⟩, r, Fr.refl X⟩, h⟩
  | .exit id, _, s, K, y, h => ⟨.exit id, s, fun a X hgb r => wp_exit ⟨s, X, rfl, ⟨rfl, rfl⟩, r, Fr.refl X⟩, h⟩
  | .ret, _, s, K, y, h => ⟨.ret, s, fun a X hgb r => wp_ret ⟨s, X, rfl, ⟨rfl, rfl⟩, r, Fr.refl X⟩, h⟩
  | .region id ops draw, hok, s, K, y, h => by
    obtain ⟨s', h1, h2⟩ := opsR_ex (k := 0) (by simp) (show opsR E ops.toList ops.toList s (K .normal) = some y from h)
    refine ⟨.normal, s', region_runs hE hm hok ?_, h2⟩
    rw [List.range_eq_range']
    simpa using h1
  | .seq x z, hok, s, K, y, h => by
    simp only [okC] at hok
    split at hok
    · rename_i hx
      obtain ⟨e, s', h1, h2⟩ := runC_sound hE hm k x hx (show runC E k x s _ = some y from h)
      cases e with
      | normal =>
        obtain ⟨e, s2, h3, h4⟩ := runC_sound hE hm k z hok (show runC E k z s' K = some y from h2)
        exact ⟨e, s2, h1.seq h3, h4⟩
      | _ => exact ⟨_, s', h1.seq' (by simp), h2⟩
    · cases hok
  | .cond c x z, hok, s, K, y, h => by
    simp only [okC] at hok
    split at hok
    · rename_i hx
      simp only [runC] at h
      split at h
      · rename_i hv
        obtain ⟨e, s', h1, h2⟩ := runC_sound hE hm k x hx h
        refine ⟨e, s', fun a X hgb r => ?_, h2⟩
        have hr := ev_rep r hv
        generalize hcv : a.eval c = cv at hr
        cases hr
        exact wp_cond hcv (h1 a X hgb r)
      · rename_i hv
        obtain ⟨e, s', h1, h2⟩ := runC_sound hE hm k z hok h
        refine ⟨e, s', fun a X hgb r => ?_, h2⟩
        have hr := ev_rep r hv
        generalize hcv : a.eval c = cv at hr
        cases hr
        exact wp_cond hcv (h1 a X hgb r)
      · cases h
    · cases hok
  | .block id b, hok, s, K, y, h => by
    obtain ⟨e, s', h1, h2⟩ := runC_sound hE hm k b hok (show runC E k b s _ = some y from h)
    cases e with
    | exit id' =>
      simp only at h2
      cases hb : Nat.beq id' id with
      | true =>
        rw [hb] at h2
        refine ⟨.normal, s', fun a X hgb r => wp_block (wp_mono (h1 a X hgb r) ?_), h2⟩
        rintro _ a' w' ⟨s1, Y, rfl, ⟨rfl, rfl⟩, hr, hf⟩
        simp only [Exit.inBlock]
        rw [if_pos (Nat.eq_of_beq_eq_true hb)]
        exact ⟨_, Y, rfl, by simp, hr, hf⟩
      | false =>
        rw [hb] at h2
        refine ⟨.exit id', s', fun a X hgb r => wp_block (wp_mono (h1 a X hgb r) ?_), h2⟩
        rintro _ a' w' ⟨s1, Y, rfl, ⟨rfl, rfl⟩, hr, hf⟩
        simp only [Exit.inBlock]
        rw [if_neg (Nat.ne_of_beq_eq_false hb)]
        exact ⟨_, Y, rfl, by simp, hr, hf⟩
    | _ =>
      refine ⟨_, s', fun a X hgb r => wp_block (wp_mono (h1 a X hgb r) ?_), h2⟩
      rintro _ a' w' ⟨s1, Y, rfl, ⟨rfl, rfl⟩, hr, hf⟩
      exact ⟨_, Y, rfl, ⟨rfl, rfl⟩, hr, hf⟩
  | .loop b, hok, s, K, y, h => by
    obtain ⟨e, s', h1, h2⟩ := loopR_rn (c := b) (fun {s K y} h => runC_sound hE hm k b hok h) (show loopR (fun s K => runC E k b s K) k s K = some y from h)
    exact ⟨e, s', h1.runs, h2⟩
  | .rangeFunc .., _, s, K, y, h => by cases h
  | .scope _, _, s, K, y, h => by cases h
  | .label _, _, s, K, y, h => by cases h
  | .goto _, _, s, K, y, h => by cases h
  | .refuse _, _, s, K, y, h => by cases h

/-! ### Functions -/
def runT (E : Env) (k : Nat) (fn : Func) (args : List AV) : Option AV :=
  match fn.body with
  | none => none
  | some c => runC E k c (St.enter fn.ntmps args) fun e s => match e with
    | .ret | .normal => match resA E s fn.results.toList with
      | some r => force r some
      | none => none
    | _ => none
def runH (E : Env) (k : Nat) (fn : Func) (args : List AV) (m : St) : Option (AV × St) :=
  match fn.body with
  | none => none
  | some c => runC E k c (m.enterH fn.ntmps args) fun e s => match e with
    | .ret | .normal => match resH E s fn.results.toList with
      | some r => force r fun r => some (r, s.mem)
      | none => none
    | _ => none
theorem runT_pc (hE : EnvOk P E) (hm : P.follows .mixedOrders = true) {f : FuncId} {fn : Func} {c : Code} (hf : P.funcs[f]? = some fn) (hb : fn.body = some c) (hok : okC E c = true) {k : Nat} {args : List AV} {r : AV} (h : runT E k fn args = some r) : PC P E.G f args r := by
  intro w L cargs hG hargs
  unfold runT at h
  rw [hb] at h
  refine calls_of_wp hf hb ?_
  obtain ⟨e, s', h1, h2⟩ := runC_sound hE hm k c hok h
  refine wp_mono (h1 _ (Cx.bare w L) (.bare hG L) (enter_rel hargs fn.ntmps)) ?_
  rintro e1 a' w' ⟨s1, Y, rfl, ⟨q1, q2⟩, hr, hfr⟩
  rw [q2] at hr
  rw [q1]
  have fin : (match resA E s' fn.results.toList with | some r => force r some | none => none) = some r → a'.defers = [] ∧ ∃ v, (results fn a'.tmps).run P Y.w = .ok v Y.w ∧ ∃ cv L', Ending.returned v = .returned cv ∧ Rep (Cx.bare Y.w L') true r cv ∧ RowKit.Below w.heap.size w Y.w ∧ ∀ b, b < w.heap.size → L' b = L b := by
    intro hres
    split at hres
    · rename_i r' hr'
      rw [force_eq] at hres
      injection hres with hres
      subst hres
      obtain ⟨cv, h1, h2⟩ := results_sound hE.g hr hr'
      refine ⟨hr.dfr, cv, h1, cv, Y.still, rfl, h2, ?_, fun b hb => ?_⟩
      · exact ⟨hfr.os, hfr.tape, hfr.output, hfr.size, fun k hk => (hfr.blk k hk rfl).1⟩
      · obtain ⟨_, k2, k3⟩ := hfr.blk b hb rfl
        unfold Cx.still
        rw [k2]; exact k3
    · cases hres
  cases e with
  | normal => exact fin h2
  | ret => exact fin h2
  | _ => cases h2
theorem runH_hc (hE : EnvOk P E) (hm : P.follows .mixedOrders = true) {f : FuncId} {fn : Func} {c : Code} (hf : P.funcs[f]? = some fn) (hb : fn.body = some c) (hok : okC E c = true) {k : Nat} {args : List AV} {m m' : St} {r : AV} (h : runH E k fn args m = some (r, m')) : HC P E.G f args m r m' := by
  intro X cargs hgb hr ha
  unfold runH at h
  rw [hb] at h
  refine calls_of_wp hf hb ?_
  obtain ⟨e, s', h1, h2⟩ := runC_sound hE hm k c hok h
  refine wp_mono (h1 _ X hgb (hr.enter ha fn.ntmps)) ?_
  rintro e1 a' w' ⟨s1, Y, rfl, ⟨q1, q2⟩, hr', hfr⟩
  rw [q2] at hr'
  rw [q1]
  have fin : (match resH E s' fn.results.toList with | some r => force r fun r => some (r, s'.mem) | none => none) = some (r, m') → a'.defers = [] ∧ ∃ v, (results fn a'.tmps).run P Y.w = .ok v Y.w ∧ ∃ cv Z, Ending.returned v = .returned cv ∧ Z.w = Y.w ∧ HRel m' Z ∧ Rep Z false r cv ∧ Fr X Z := by
    intro hres
    split at hres
    · rename_i r' hr2
      rw [force_eq] at hres
      injection hres with hres
      injection hres with e1 e2
      subst e1; subst e2
      obtain ⟨cv, h1, h2⟩ := resultsH_sound hE.g hr' hr2
      exact ⟨hr'.dfr, cv, h1, cv, Y, rfl, rfl, hr'.hrel, h2, hfr⟩
    · cases hres
  cases e with
  | normal => exact fin h2
  | ret => exact fin h2
  | _ => cases h2
end

/-! ### A program's functions, so deep -/
/-- Functions that are carried out: by number; memory: are they handed the caller's memory? -/
structure Tab where
  fn : Nat → Option Func
  mem : Nat → Bool
def tabT (F : Env) (k : Nat) (old : CR) (args : List AV) : Option Func → CR
  | some fn => match runT F k fn args with
    | some r => .yes r
    | none => .no
  | none => old
def tabH (F : Env) (k : Nat) (old : Res) (args : List AV) (m : St) : Option Func → Res
  | some fn => match runH F k fn args m with
    | some (r, m') => .ok r m'
    | none => .fail
  | none => old
def Env.oldH (E : Env) (g : Nat) (args : List AV) (m : St) : Res :=
  match E.hf g with
  | true => E.H g args m
  | false => .fail
def orB (a b : Bool) : Bool :=
  match a with
  | true => true
  | false => b
def Env.runs (E : Env) (t : Tab) (k : Nat) : Nat → Env
  | 0 => { E with hc := true, hp := true, hf := fun g => orB (t.mem g) (E.hf g), H := E.oldH }
  | n + 1 => { E with hc := true, hp := true, hf := fun g => orB (t.mem g) (E.hf g), T := fun g args => tabT (E.runs t k n) k (E.T g args) args (t.fn g), H := fun g args m => tabH (E.runs t k n) k (E.oldH g args m) args m (t.fn g) }
/-- the environment that its regions are looked at in -/
def Env.look (E : Env) (t : Tab) : Env := { E with hc := true, hp := true, hf := fun g => orB (t.mem g) (E.hf g), T := fun _ _ => .no, H := fun _ _ _ => .fail }
def TabOk (P : Program) (E : Env) (t : Tab) : Prop := ∀ f fn, t.fn f = some fn → P.funcs[f]? = some fn ∧ callable P f = true ∧ ∃ c, fn.body = some c ∧ okC (E.look t) c = true
theorem commutes_runs (E : Env) (t : Tab) (k n : Nat) (ops : List Oper) : commutes (E.runs t k n) ops = commutes (E.look t) ops := by
  cases n <;> rfl
theorem okC_runs (E : Env) (t : Tab) (k n : Nat) : ∀ c : Code, okC (E.runs t k n) c = okC (E.look t) c
  | .region _ ops draw => by cases draw <;> simp only [okC, commutes_runs]
  | .seq a b => by simp only [okC, okC_runs E t k n a, okC_runs E t k n b]
  | .cond _ a b => by simp only [okC, okC_runs E t k n a, okC_runs E t k n b]
  | .block _ b => by simp only [okC, okC_runs E t k n b]
  | .loop b => by simp only [okC, okC_runs E t k n b]
  | .skip => rfl
  | .exit _ => rfl
  | .ret => rfl
  | .rangeFunc .. => rfl
  | .scope _ => rfl
  | .label _ => rfl
  | .goto _ => rfl
  | .refuse _ => rfl
theorem Env.oldH_ok {P : Program} (E : Env) (hE : EnvOk P E) (g : Nat) (args : List AV) (m : St) : match E.oldH g args m with
    | .fail => True
    | .ok v m' => callable P g = true ∧ HC P E.G g args m v m'
    | @Res.need C _ v m' => C → callable P g = true ∧ HC P E.G g args m v m' := by
  unfold Env.oldH
  cases h : E.hf g with
  | true => exact hE.h g args m h
  | false => trivial
theorem Env.runs_ok {P : Program} {E : Env} (hE : EnvOk P E) (hm : P.follows .mixedOrders = true) {t : Tab} (ht : TabOk P E t) (k : Nat) : ∀ n, EnvOk P (E.runs t k n)
  | 0 => ⟨hE.g, hE.s, hE.t, fun g args m _ => E.oldH_ok hE g args m⟩
  | n + 1 => by
    have ih := Env.runs_ok hE hm ht k n
    have hG : (E.runs t k n).G = E.G := by cases n <;> rfl
    refine ⟨hE.g, hE.s, fun g args => ?_, fun g args m hg => ?_⟩
    · show (match tabT (E.runs t k n) k (E.T g args) args (t.fn g) with | .no => True | .yes r => Called P E.G g args r | @CR.need C _ r => C → Called P E.G g args r)
      cases hfn : t.fn g with
      | none => exact hE.t g args
      | some fn =>
        obtain ⟨h1, h2, c, h3, h4⟩ := ht g fn hfn
        simp only [tabT]
        cases hr : runT (E.runs t k n) k fn args with
        | none => trivial
        | some r =>
          refine .inl ⟨h2, ?_⟩
          have := runT_pc ih hm h1 h3 ((okC_runs E t k n c).trans h4) hr
          rwa [hG] at this
    · show (match tabH (E.runs t k n) k (E.oldH g args m) args m (t.fn g) with | .fail => True | .ok v m' => callable P g = true ∧ HC P E.G g args m v m' | @Res.need C _ v m' => C → callable P g = true ∧ HC P E.G g args m v m')
      cases hfn : t.fn g with
      | none => exact E.oldH_ok hE g args m
      | some fn =>
        obtain ⟨h1, h2, c, h3, h4⟩ := ht g fn hfn
        simp only [tabH]
        cases hr : runH (E.runs t k n) k fn args m with
        | none => trivial
        | some p =>
          obtain ⟨r, m'⟩ := p
          refine ⟨h2, ?_⟩
          have := runH_hc ih hm h1 h3 ((okC_runs E t k n c).trans h4) hr
          rwa [hG] at this

/-! ### A table, as a tree -/
inductive FT where
  | leaf
  | one (n : Nat) (fn : Func)
  | node (m : Nat) (l r : FT)
def FT.get : FT → Nat → Option Func
  | .leaf, _ => none
  | .one n fn, f => match Nat.beq n f with
    | true => some fn
    | false => none
  | .node m l r, f => match Nat.blt f m with
    | true => l.get f
    | false => r.get f
def FT.All (p : Nat → Func → Prop) : FT → Prop
  | .leaf => True
  | .one n fn => p n fn
  | .node _ l r => l.All p ∧ r.All p
theorem FT.all_get {p : Nat → Func → Prop} : ∀ {t : FT}, t.All p → ∀ {f : Nat} {fn : Func}, t.get f = some fn → p f fn
  | .leaf, _, _, _, h => by cases h
  | .one n fn, ha, f, fn', h => by
    simp only [FT.get] at h
    split at h
    · rename_i hb
      injection h with h; subst h
      rw [← Nat.eq_of_beq_eq_true hb]; exact ha
    · cases h
  | .node m l r, ha, f, fn, h => by
    simp only [FT.get] at h
    split at h
    · exact FT.all_get ha.1 h
    · exact FT.all_get ha.2 h
/-- what is looked at of one function -/
def FnOk (P : Program) (E : Env) (t : Tab) (f : Nat) (fn : Func) : Prop := P.funcs[f]? = some fn ∧ callable P f = true ∧ ∃ c, fn.body = some c ∧ okC (E.look t) c = true
theorem tabOk_of {P : Program} {E : Env} {t : Tab} {ft : FT} (hg : t.fn = ft.get) (h : ft.All (FnOk P E t)) : TabOk P E t := fun f fn hf => FT.all_get h (by rw [← hg]; exact hf)
def bodyOk (E : Env) (t : Tab) (fn : Func) : Bool :=
  match fn.body with
  | some c => okC (E.look t) c
  | none => false
theorem fnOk_of {P : Program} {E : Env} {t : Tab} {f : Nat} {fn : Func} (h1 : P.funcs[f]? = some fn) (h2 : callable P f = true) (h3 : bodyOk E t fn = true) : FnOk P E t f fn := by
  refine ⟨h1, h2, ?_⟩
  unfold bodyOk at h3
  split at h3
  · rename_i c hc; exact ⟨c, hc, h3⟩
  · cases h3
/-- A CLOSED CALL, carried out. -/
theorem pc_run {P : Program} {E : Env} (hE : EnvOk P E) (hm : P.follows .mixedOrders = true) {t : Tab} (ht : TabOk P E t) (k n : Nat) {f : Nat} {fn : Func} (hf : t.fn f = some fn) {args : List AV} {r : AV} (h : runT (E.runs t k n) k fn args = some r) : PC P E.G f args r := by
  obtain ⟨h1, _, c, h3, h4⟩ := ht f fn hf
  have := runT_pc (E.runs_ok hE hm ht k n) hm h1 h3 ((okC_runs E t k n c).trans h4) h
  cases n <;> exact this
end Go.Ab
