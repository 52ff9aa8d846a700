/- The symbolic evaluator: regions, second part: orders. -/
import Derived.Test.YtejepcnoflahkaaGreatDoorAbSound8
namespace Go.Ab
set_option linter.unusedVariables false
set_option linter.unusedSimpArgs false
section
variable {E : Env} {s : St}

theorem sat_const {R : Res} {s : St} (h : R = R.mapS (fun _ => s)) : R.sat (fun _ s' => s' = s) := by
  cases R with
  | fail => trivial
  | ok v s' => simp only [Res.mapS, Res.ok.injEq, true_and] at h; exact h
  | need C v s' => simp only [Res.mapS, Res.need.injEq, true_and] at h; exact fun _ => h.2
theorem sat_of_const (o : Option AV) (s : St) : (Res.of s o).sat (fun _ s' => s' = s) := by cases o <;> first | trivial | rfl
theorem evF_sat' {x : Operand} {k : AV → Res} {G : AV → St → Prop} (h : ∀ v, (k v).sat G) : (evF s x .fail k).sat G := by
  rw [evF_eq]; cases ev s x <;> first | trivial | exact h _
theorem evsF_sat' {x : List Operand} {k : List AV → Res} {G : AV → St → Prop} (h : ∀ v, (k v).sat G) : (evsF s x .fail k).sat G := by
  rw [evsF_eq]; cases evs s x <;> first | trivial | exact h _
theorem evF_mapS {x : Operand} {k : AV → Res} (f : St → St) : (evF s x .fail k).mapS f = evF s x .fail fun v => (k v).mapS f := by
  rw [evF_eq, evF_eq]; cases ev s x <;> rfl
theorem evsF_mapS {x : List Operand} {k : List AV → Res} (f : St → St) : (evsF s x .fail k).mapS f = evsF s x .fail fun v => (k v).mapS f := by
  rw [evsF_eq, evsF_eq]; cases evs s x <;> rfl

/-- What neither makes nor writes hands its state on. -/
theorem opF_keep {op : Op} (h : effect E op ≤ 1) : (opF E op s).sat (fun _ s' => s' = s) := by
  unfold opF
  cases op with
  | move x => show (evR s x).sat _; rw [evR_eq]; exact sat_of_const _ _
  | assign x => show (evR s x).sat _; rw [evR_eq]; exact sat_of_const _ _
  | pick c x y =>
    refine evF_sat' fun v => ?_
    cases v <;> first | trivial | skip
    rename_i b
    cases b <;> (simp only [evR_eq]; exact sat_of_const _ _)
  | alloc T => simp [effect] at h
  | box T x => simp [effect] at h
  | build T ps => simp only [partsF_eq]; cases parts s ps.toList <;> first | trivial | exact sat_of_const _ _
  | buildSlice T n ps =>
    have hb : E.bp T = false := by cases hb : E.bp T with | false => rfl | true => simp [effect, hb] at h
    simp only [partsF_eq, hb]; cases parts s ps.toList <;> first | trivial | exact sat_of_const _ _
  | load T x => exact evF_sat' fun v => loadR_keep
  | store T x y => simp [effect] at h
  | nilCheck x =>
    refine evF_sat' fun v => ?_
    cases v <;> first | trivial | rfl
  | binOp bop T x y yT => exact evF_sat' fun v => evF_sat' fun u => sat_const (binA_st s s)
  | unOp uop T x => exact evF_sat' fun v => sat_const (unA_st s s)
  | convert S D x => exact evF_sat' fun v => convA_keep h
  | makeFunc fn first cap =>
    cases fn with
    | func f => exact evsF_sat' fun v => evsF_sat' fun u => rfl
    | _ => trivial
  | makeMap T r => simp [effect] at h
  | makeSlice T l c =>
    have hp : E.hp = false := by cases hp : E.hp with | false => rfl | true => simp [effect, hp] at h
    exact evF_sat' fun v => evF_sat' fun u => sat_const (makeSliceA_st hp s s)
  | slice T x lo hi mx =>
    cases mx with
    | some m => trivial
    | none =>
      refine evF_sat' fun v => ?_
      cases evo s lo <;> cases evo s hi <;> first | trivial | exact sat_const (sliceA_st s s)
  | fieldAddr S x f => exact evF_sat' fun v => sat_of_const _ _
  | field S x f => exact evF_sat' fun v => sat_of_const _ _
  | indexAddr T x i => exact evF_sat' fun v => evF_sat' fun u => sat_const (indexAddrA_st s s)
  | index T x i => exact evF_sat' fun v => evF_sat' fun u => sat_const (indexA_st s s)
  | lookup T x i ok =>
    refine evF_sat' fun v => evF_sat' fun u => ?_
    unfold lookupA
    repeat' split
    all_goals first | trivial | rfl | exact fun _ => rfl
  | mapUpdate T m k x => simp [effect] at h
  | insert T m k x => simp [effect] at h
  | extract x i =>
    refine evF_sat' fun v => ?_
    cases v <;> first | trivial | exact sat_of_const _ _ | (simp only [partN]; split <;> first | trivial | rfl | exact fun _ => rfl)
  | range T x => simp [effect] at h
  | next x b => simp [effect] at h
  | call c =>
    obtain ⟨callee, cargs, argTypes⟩ := c
    refine evsF_sat' fun args => ?_
    cases callee with
    | value f =>
      refine evF_sat' fun v => ?_
      cases v <;> first | trivial | skip
      show (match isTmp f with | true => callS E s _ _ | false => callA E s _ _).sat _
      cases isTmp f
      · exact sat_const (callA_st s s)
      · exact sat_const (callS_st s s rfl)
    | invoke x m => trivial
    | builtin b =>
      cases b <;> first | trivial | (simp [effect] at h; done) | (exfalso; revert h; simp only [effect]; cases E.ap <;> simp; done) | skip
      · match args, argTypes[0]? with
        | [x], some T =>
          show (lenA E s T x).sat _
          unfold lenA
          repeat' split
          all_goals first | trivial | rfl
        | [], _ => trivial
        | _ :: _ :: _, _ => trivial
        | [_], none => trivial
      · exact sat_const (maxA_st s s)
      · exact sat_const (minA_st s s)
  | _ => trivial

theorem Res.takes_map' {R : Res} (f : St → St) {v : AV} {s' : St} (h : R.takes v s') : (R.mapS f).takes v (f s') := by
  cases R with
  | fail => exact h
  | ok w u => exact ⟨h.1, by rw [h.2]⟩
  | need C w u => exact ⟨h.1, h.2.1, by rw [h.2.2]⟩
theorem snapL_mono {h h' : Nat → Option Blk} (hh : ∀ i b, h i = some b → h' i = some b) : ∀ {l l' : List AV}, snapL h l = some l' → snapL h' l = some l'
  | [], l', hl => hl
  | x :: l, l', hl => by
    simp only [snapL] at hl ⊢
    split at hl
    · rename_i y ys h1 h2
      rw [snapL_mono hh h2]
      have : snapA h' x = some y := by
        unfold snapA at h1 ⊢
        split at h1
        · rename_i i off
          cases hi : h i with
          | none => rw [hi] at h1; cases h1
          | some blk => rw [hi] at h1; rw [hh i blk hi]; exact h1
        · rename_i i lo n sz cap
          cases hi : h i with
          | none => rw [hi] at h1; cases h1
          | some blk => rw [hi] at h1; rw [hh i blk hi]; exact h1
        · exact h1
      rw [this]; exact hl
    · cases hl
/-- What neither asks, makes nor writes does the same upon any memory. -/
theorem opF_mem {op : Op} (h : effect E op = 0) (u : St) : opF E op (s.withM u) = (opF E op s).mapS (fun _ => s.withM u) := by
  have he : ∀ x, ev (s.withM u) x = ev s x := fun x => by cases x <;> rfl
  have hF : ∀ (x : Operand) (k : AV → Res), evF (s.withM u) x .fail k = evF s x .fail k := fun x k => by rw [evF_eq, evF_eq, he]
  have hes : ∀ l, evs (s.withM u) l = evs s l := fun l => evs_congr fun x _ => he x
  have hFs : ∀ (x : List Operand) (k : List AV → Res), evsF (s.withM u) x .fail k = evsF s x .fail k := fun x k => by rw [evsF_eq, evsF_eq, hes]
  have hp : ∀ l, parts (s.withM u) l = parts s l := fun l => parts_congr fun x _ => he x
  cases op with
  | move x => simp only [opF, evR_eq, he, mapS_of]
  | assign x => simp only [opF, evR_eq, he, mapS_of]
  | pick c x y =>
    simp only [opF, hF, evF_mapS, evR_eq, he]
    congr 1; funext v
    cases v <;> first | rfl | (rename_i b; cases b <;> simp only [mapS_of])
  | alloc T => simp [effect] at h
  | box T x => simp [effect] at h
  | build T ps => simp only [opF, partsF_eq, hp]; cases parts s ps.toList <;> first | rfl | simp only [mapS_of]
  | buildSlice T n ps =>
    have hb : E.bp T = false := by cases hb : E.bp T with | false => rfl | true => simp [effect, hb] at h
    simp only [opF, partsF_eq, hp, hb]; cases parts s ps.toList <;> first | rfl | simp only [mapS_of]
  | load T x => simp [effect] at h
  | store T x y => simp [effect] at h
  | nilCheck x =>
    simp only [opF, hF, evF_mapS]
    congr 1; funext v
    cases v <;> rfl
  | binOp bop T x y yT => simp only [opF, hF, evF_mapS]; congr 1; funext v; congr 1; funext w; exact binA_st s _
  | unOp uop T x => simp only [opF, hF, evF_mapS]; congr 1; funext v; exact unA_st s _
  | convert S D x => simp only [opF, hF, evF_mapS]; congr 1; funext v; exact convA_mem h _
  | makeFunc fn first cap =>
    cases fn with
    | func f => simp only [opF, hFs, evsF_mapS]; rfl
    | _ => rfl
  | makeMap T r => simp [effect] at h
  | makeSlice T l c =>
    have hp : E.hp = false := by cases hp : E.hp with | false => rfl | true => simp [effect, hp] at h
    simp only [opF, hF, evF_mapS]; congr 1; funext v; congr 1; funext w; exact makeSliceA_st hp s _
  | slice T x lo hi mx =>
    cases mx with
    | some m => rfl
    | none =>
      have ho : ∀ y, evo (s.withM u) y = evo s y := fun y => evo_congr fun z _ => he z
      simp only [opF, hF, evF_mapS, ho]
      congr 1; funext v
      cases evo s lo <;> cases evo s hi <;> first | rfl | exact sliceA_st s _
  | fieldAddr S x f => simp only [opF, hF, evF_mapS, mapS_of]
  | field S x f => simp only [opF, hF, evF_mapS, mapS_of]
  | indexAddr T x i => simp only [opF, hF, evF_mapS]; congr 1; funext v; congr 1; funext w; exact indexAddrA_st s _
  | index T x i => simp only [opF, hF, evF_mapS]; congr 1; funext v; congr 1; funext w; exact indexA_st s _
  | lookup T x i ok => simp [effect] at h
  | mapUpdate T m k x => simp [effect] at h
  | insert T m k x => simp [effect] at h
  | extract x i =>
    simp only [opF, hF, evF_mapS]
    congr 1; funext v
    cases v <;> first | rfl | (simp only [mapS_of]; done) | (simp only [partN]; split <;> rfl)
  | range T x => simp [effect] at h
  | next x b => simp [effect] at h
  | call c =>
    obtain ⟨callee, cargs, argTypes⟩ := c
    simp only [opF, hFs, evsF_mapS]
    congr 1; funext args
    cases callee with
    | value f =>
      simp only [hF, evF_mapS]
      congr 1; funext v
      have hf : isTmp f = false := by cases f <;> first | rfl | (simp [effect] at h)
      cases v <;> first | rfl | (simp only [hf]; exact callA_st s _)
    | invoke x m => rfl
    | builtin b =>
      cases b <;> first | rfl | skip
      all_goals first | (exfalso; revert h; simp only [effect]; cases E.ap <;> simp; done) | (simp [effect] at h; done) | skip
      · exact maxA_st s _
      · exact minA_st s _
  | _ => rfl

/-- No operation turns the slots by itself. -/
theorem opF_t {op : Op} : (opF E op s).sat (fun _ s' => s'.t = s.t ∧ s'.n = s.n) := by
  by_cases h : effect E op ≤ 1
  · exact Res.sat_imp (opF_keep h) fun v s' e => by subst e; exact ⟨rfl, rfl⟩
  · cases op <;> first | (simp [effect] at h; done) | skip
    case alloc T =>
      simp only [opF, allocA]
      cases E.Γ T with
      | none => trivial
      | some ti => simp only [forceL_eq]; cases E.bt T <;> exact ⟨rfl, rfl⟩
    case box T x =>
      refine evF_sat' fun v => ?_
      cases v <;> first | trivial | exact ⟨rfl, rfl⟩
    case store T x y =>
      refine evF_sat' fun v => evF_sat' fun u => ?_
      unfold storeA
      repeat' split
      all_goals first | trivial | (rw [forceL_eq]; exact ⟨rfl, rfl⟩) | (rw [force_eq]; exact fun _ => ⟨rfl, rfl⟩)
    case convert S D x => exact evF_sat' fun v => Res.sat_imp (convA_eff2 (by
      have h : ¬ effC E S D ≤ 1 := h
      unfold effC at h ⊢
      revert h
      cases E.hp <;> simp only [] <;> first | (intro h; omega) | skip
      split <;> intro h <;> first | rfl | omega)) fun _ _ ⟨b, e⟩ => by subst e; exact ⟨rfl, rfl⟩
    case makeSlice T l c =>
      have hp : E.hp = true := by cases hp : E.hp with | true => rfl | false => simp [effect, hp] at h
      simp only [opF]
      exact evF_sat' fun v => evF_sat' fun u => Res.sat_imp (makeSliceA_eff2 hp) fun _ _ ⟨b, e⟩ => by subst e; exact ⟨rfl, rfl⟩
    case buildSlice T n ps =>
      have hb : E.bp T = true := by cases hb : E.bp T with | true => rfl | false => simp [effect, hb] at h
      simp only [opF, partsF_eq, hb]
      cases parts s ps.toList with
      | none => trivial
      | some l => exact Res.sat_imp buildRowA_eff2 fun _ _ ⟨b, e⟩ => by subst e; exact ⟨rfl, rfl⟩
    case makeMap T r => cases r <;> first | trivial | exact ⟨rfl, rfl⟩
    case mapUpdate T m k x =>
      refine evF_sat' fun v => evF_sat' fun u => evF_sat' fun w => ?_
      unfold mapSetA
      repeat' split
      all_goals first | trivial | exact ⟨rfl, rfl⟩ | exact fun _ => ⟨rfl, rfl⟩
    case insert T m k x =>
      refine evF_sat' fun v => evF_sat' fun u => evF_sat' fun w => ?_
      unfold mapSetA
      repeat' split
      all_goals first | trivial | exact ⟨rfl, rfl⟩ | exact fun _ => ⟨rfl, rfl⟩
    case call c =>
      obtain ⟨callee, cargs, argTypes⟩ := c
      cases callee <;> first | (simp [effect] at h; done) | (rename_i f; cases f <;> simp [effect] at h; done) | skip
      rename_i b
      cases b <;> first | (simp [effect] at h; done) | (exfalso; revert h; simp only [effect]; cases E.ap <;> simp; done) | skip
      refine evsF_sat' fun args => ?_
      match args, argTypes[0]?, argTypes[1]? with
      | [x, y], some T, some xT =>
        show (appendA E s T xT x y).sat _
        have hB : ∀ x, (appendB E s T xT x y).sat fun _ s' => s'.t = s.t ∧ s'.n = s.n := fun x => by
          unfold appendB
          repeat' split
          all_goals first | trivial | exact fun _ => ⟨rfl, rfl⟩
        have hG : ∀ x, (appendG E s T xT x y).sat fun _ s' => s'.t = s.t ∧ s'.n = s.n := fun x => by
          unfold appendG
          repeat' split
          all_goals first | trivial | exact fun _ => ⟨rfl, rfl⟩
        unfold appendA
        split
        · exact hB _
        split
        · split
          · exact hB _
          · exact hG _
        · split
          · exact hB _
          · exact hG _
      | [], _, _ => trivial
      | [_], _, _ => trivial
      | _ :: _ :: _ :: _, _, _ => trivial
      | [_, _], none, _ => trivial
      | [_, _], some _, none => trivial
    case mapEntry => trivial
    case entryStore => trivial
    case range T x =>
      refine evF_sat' fun v => ?_
      unfold rangeA
      split <;> first | trivial | exact ⟨rfl, rfl⟩
    case next x b =>
      cases b with
      | false => trivial
      | true =>
        refine evF_sat' fun v => ?_
        unfold nextA
        repeat' split
        all_goals first | trivial | exact ⟨rfl, rfl⟩

/-- What asks memory answers the same behind a new block. -/
theorem opF_new {op : Op} (h : effect E op ≤ 1) (hf : s.h s.nx = none) (b : Blk) {v : AV} {s' : St} (ht : (opF E op s).takes v s') : (opF E op (s.new b)).takes v (s.new b) := by
  by_cases h0 : effect E op = 0
  · have := opF_mem (E := E) (s := s) h0 (s.new b)
    have e : s.withM (s.new b) = s.new b := rfl
    rw [e] at this
    rw [this]
    cases hR : opF E op s with
    | fail => rw [hR] at ht; exact ht
    | ok w u => rw [hR] at ht; exact ⟨ht.1, rfl⟩
    | need C w u => rw [hR] at ht; exact ⟨ht.1, ht.2.1, rfl⟩
  · have he : ∀ x, ev (s.new b) x = ev s x := fun x => by cases x <;> rfl
    have hh : ∀ i blk, s.h i = some blk → (s.new b).h i = some blk := by
      intro i blk hi
      have : i ≠ s.nx := fun e => by rw [e, hf] at hi; cases hi
      exact (upd_ne s.h _ this).trans hi
    cases op <;> first | (simp [effect] at h h0; done) | skip
    case load T x =>
      simp only [opF, evF_eq, he] at ht ⊢
      cases hv : ev s x with
      | none => rw [hv] at ht; exact ht
      | some w =>
        rw [hv] at ht
        simp only at ht ⊢
        by_cases hep : ∃ i j sz off, w = .eptr i j sz off
        · obtain ⟨i, j, sz, off, rfl⟩ := hep
          unfold loadR at ht ⊢
          simp only at ht ⊢
          cases hΓ : E.Γ T with
          | none => rw [hΓ] at ht; exact ht
          | some ti =>
            rw [hΓ] at ht
            simp only at ht ⊢
            cases hi : s.h i with
            | none => rw [hi] at ht; exact ht.elim
            | some blk =>
              rw [hi] at ht
              rw [hh i blk hi]
              cases blk <;> first | exact ht.elim | skip
              rename_i sz' n f
              simp only at ht ⊢
              cases hc : cellsAt ti.d.agg ti.size (f j).cells off with
              | none => rw [hc] at ht; exact ht.elim
              | some r => rw [hc] at ht; exact ⟨ht.1, ht.2.1, rfl⟩
        have hep' : ∀ i j sz off, w ≠ .eptr i j sz off := fun i j sz off e => hep ⟨i, j, sz, off, e⟩
        rw [loadR_eq hep'] at ht ⊢
        cases hl : loadA E s T w with
        | none => rw [hl] at ht; exact ht.elim
        | some r =>
          have : loadA E (s.new b) T w = some r := by
            unfold loadA at hl ⊢
            cases hΓ : E.Γ T with
            | none => rw [hΓ] at hl; cases hl
            | some ti =>
              simp only [hΓ] at hl ⊢
              cases w <;> first | exact hl | skip
              rename_i i off
              simp only at hl ⊢
              cases hi : s.h i with
              | none => rw [hi] at hl; cases hl
              | some blk => rw [hi] at hl; rw [hh i blk hi]; exact hl
          rw [this]
          rw [hl] at ht
          exact ⟨ht.1, rfl⟩
    case lookup T x i ok =>
      simp only [opF, evF_eq, he] at ht ⊢
      cases hv : ev s x with
      | none => rw [hv] at ht; exact ht
      | some w =>
        rw [hv] at ht
        simp only at ht ⊢
        cases hu : ev s i with
        | none => rw [hu] at ht; exact ht
        | some u =>
          rw [hu] at ht
          simp only at ht ⊢
          unfold lookupA at ht ⊢
          cases hΓ : E.Γ T with
          | none => rw [hΓ] at ht; exact ht
          | some ti =>
            simp only [hΓ] at ht ⊢
            cases hd : ti.d <;> rw [hd] at ht <;> first | exact ht | skip
            rename_i kt e
            simp only at ht ⊢
            cases hΓe : E.Γ e with
            | none => rw [hΓe] at ht; exact ht
            | some te =>
              simp only [hΓe] at ht ⊢
              cases hkd : tdOf E kt with
              | none => rw [hkd] at ht; exact ht
              | some kd =>
                simp only [hkd] at ht ⊢
                cases hk : isKeyA kd u with
                | false => rw [hk] at ht; exact ht
                | true =>
                  simp only [hk] at ht ⊢
                  cases w <;> first | exact ht | skip
                  rename_i j
                  simp only at ht ⊢
                  cases hj : s.h j with
                  | none => rw [hj] at ht; exact ht.elim
                  | some blk =>
                    rw [hj] at ht
                    rw [hh j blk hj]
                    cases blk with
                    | cells cs => exact ht
                    | tcells => exact ht
                    | arr => exact ht
                    | siter => exact ht
                    | map es =>
                      simp only at ht ⊢
                      cases htk : E.tk T with
                      | none =>
                        simp only [htk] at ht ⊢
                        cases hfi : findA kd u te.zero es with
                        | none => rw [hfi] at ht; exact ht
                        | some p =>
                          obtain ⟨p1, p2⟩ := p
                          rw [hfi] at ht
                          cases ok <;> exact ⟨ht.1, rfl⟩
                      | some q =>
                        simp only [htk] at ht ⊢
                        cases ok <;> exact ⟨ht.1, ht.2.1, rfl⟩
    case convert S D x =>
      simp only [opF, evF_eq, he] at ht ⊢
      cases hv : ev s x with
      | none => rw [hv] at ht; exact ht
      | some w => rw [hv] at ht; exact convA_new h hh ht
    case makeSlice T l c => exact absurd h (by simp only [effect] at h0 ⊢; cases hp : E.hp <;> simp_all)
    case buildSlice T n ps => exact absurd h (by simp only [effect] at h0 ⊢; cases hb : E.bp T <;> simp_all)
    case call c =>
      obtain ⟨callee, cargs, argTypes⟩ := c
      cases callee <;> first | (simp [effect] at h h0; done) | skip
      · rename_i f
        cases f <;> first | (simp [effect] at h h0; done) | skip
        rename_i tt
        have hes : evs (s.new b) cargs.toList = evs s cargs.toList := evs_congr fun x _ => he x
        simp only [opF, evsF_eq, evF_eq, hes, he] at ht ⊢
        cases hv : evs s cargs.toList with
        | none => rw [hv] at ht; exact ht
        | some args =>
          rw [hv] at ht
          simp only at ht ⊢
          cases hu : ev s (.tmp tt) with
          | none => rw [hu] at ht; exact ht
          | some u =>
            rw [hu] at ht
            cases u <;> first | exact ht | skip
            rename_i g first cap
            have ht' : (callS E s g (first ++ args ++ cap)).takes v s' := ht
            show (callS E (s.new b) g (first ++ args ++ cap)).takes v (s.new b)
            generalize first ++ args ++ cap = l at ht'
            unfold callS at ht' ⊢
            cases hp : pureL l with
            | some m =>
              rw [hp] at ht'
              simp only at ht' ⊢
              rw [callA_st s]
              exact Res.takes_map' (fun _ => s.new b) ht'
            | none =>
              rw [hp] at ht'
              simp only at ht' ⊢
              cases hsn : snapL s.h l with
              | none => rw [hsn] at ht'; exact ht'.elim
              | some as' =>
                have : snapL (s.new b).h l = some as' := snapL_mono hh hsn
                rw [this]
                rw [hsn] at ht'
                simp only at ht' ⊢
                cases hT : E.T g as' with
                | no => rw [hT] at ht'; exact ht'
                | yes r => rw [hT] at ht'; simp only at ht' ⊢; cases hnr : noRef r <;> rw [hnr] at ht' <;> first | exact ht'.elim | exact ⟨ht'.1, rfl⟩
                | need C r => rw [hT] at ht'; simp only at ht' ⊢; cases hnr : noRef r <;> rw [hnr] at ht' <;> first | exact ht'.elim | exact ⟨ht'.1, ht'.2.1, rfl⟩
      rename_i bb
      cases bb <;> first | (simp [effect] at h h0; done) | (exfalso; revert h h0; simp only [effect]; cases E.ap <;> simp; done) | skip
      have hes : evs (s.new b) cargs.toList = evs s cargs.toList := evs_congr fun x _ => he x
      simp only [opF, evsF_eq, hes] at ht ⊢
      cases hv : evs s cargs.toList with
      | none => rw [hv] at ht; exact ht
      | some args =>
        rw [hv] at ht
        revert ht
        match args, argTypes[0]? with
        | [x], some T =>
          intro ht
          have ht' : (lenA E s T x).takes v s' := ht
          show (lenA E (s.new b) T x).takes v (s.new b)
          unfold lenA at ht' ⊢
          cases hd : tdOf E T with
          | none => rw [hd] at ht'; exact ht'
          | some d =>
            simp only [hd] at ht' ⊢
            cases d <;> cases x <;> first | exact ht'.elim | exact ⟨ht'.1, rfl⟩ | skip
            rename_i i
            simp only at ht' ⊢
            cases hi : s.h i with
            | none => rw [hi] at ht'; exact ht'.elim
            | some blk =>
              rw [hi] at ht'
              rw [hh i blk hi]
              cases blk with
              | cells cs => exact ht'.elim
              | tcells => exact ht'.elim
              | arr => exact ht'.elim
              | siter => exact ht'.elim
              | map es => exact ⟨ht'.1, rfl⟩
        | [], _ => exact fun ht => ht.elim
        | _ :: _ :: _, _ => exact fun ht => ht.elim
        | [_], none => exact fun ht => ht.elim
end
end Go.Ab
