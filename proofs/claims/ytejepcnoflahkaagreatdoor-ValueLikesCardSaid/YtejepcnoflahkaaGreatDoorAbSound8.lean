/- The symbolic evaluator: regions: what an operation hangs on; operations that stand apart may be turned about. -/
import Derived.Test.YtejepcnoflahkaaGreatDoorAbSound7
import Derived.Orders
namespace Go.Ab
set_option linter.unusedVariables false
set_option linter.unusedSimpArgs false

def St.withT (s : St) (τ : TT) : St := ⟨s.n, τ, s.h, s.nx, s.k, s.nk⟩
def St.withM (s u : St) : St := ⟨s.n, s.t, u.h, u.nx, u.k, u.nk⟩
def Res.mapS (f : St → St) : Res → Res
  | .fail => .fail
  | .ok v s => .ok v (f s)
  | @Res.need C d v s => @Res.need C d v (f s)
def Res.takes (R : Res) (v : AV) (s' : St) : Prop :=
  match R with
  | .fail => False
  | .ok w s => v = w ∧ s' = s
  | @Res.need C _ w s => C ∧ v = w ∧ s' = s

section
variable {E : Env} {s : St}

theorem mapS_ite {α : Type} (f : St → St) (o : Option α) (k : α → Res) : (match o with | some v => k v | none => .fail : Res).mapS f = match o with | some v => (k v).mapS f | none => .fail := by cases o <;> rfl
theorem mapS_of (f : St → St) (o : Option AV) : (Res.of s o).mapS f = Res.of (f s) o := by cases o <;> rfl

/-- a state with the same memory: each operation on values does the same -/
structure Alike (s u : St) (f : St → St) : Prop where
  h : u.h = s.h
  nx : u.nx = s.nx
  k : u.k = s.k
  nk : u.nk = s.nk

theorem evs_congr {u : St} : ∀ {l : List Operand}, (∀ x ∈ l, ev u x = ev s x) → evs u l = evs s l
  | [], _ => rfl
  | x :: l, h => by
    have h1 := h x (by simp)
    have h2 := evs_congr (l := l) (fun y hy => h y (by simp [hy]))
    simp only [evs, h1, h2]
theorem parts_congr {u : St} : ∀ {l : List (Nat × Operand)}, (∀ x ∈ l.map (·.2), ev u x = ev s x) → parts u l = parts s l
  | [], _ => rfl
  | (i, x) :: l, h => by
    have h1 := h x (by simp)
    have h2 := parts_congr (l := l) (fun y hy => h y (by simp at hy ⊢; exact .inr hy))
    simp only [parts, h1, h2]
theorem evo_congr {u : St} {x : Option Operand} (h : ∀ y, x = some y → ev u y = ev s y) : evo u x = evo s x := by
  cases x with
  | none => rfl
  | some y => simp only [evo, evF_eq, h y rfl]


/-- operations on values alone: the state is handed on -/
theorem convA_tau {S D : Nat} {x : AV} {τ : TT} : convA E (s.withT τ) S D x = (convA E s S D x).mapS (·.withT τ) := by
  unfold convA
  cases tdOf E S with
  | none => rfl
  | some sd =>
    cases tdOf E D with
    | none => rfl
    | some dd =>
      cases dd <;> cases x <;> try rfl
      · cases sd <;> try rfl
        rename_i e
        simp only
        cases tdOf E e with
        | none => rfl
        | some td => cases td <;> try rfl
                     rename_i k
                     cases k <;> rfl
      · rename_i i lo n sz cap
        show (match sd, E.hp, s.h i with | .slice e, true, some (.arr U' sz' m f) => _ | _, _, _ => _) = _
        cases sd <;> try rfl
        rename_i e
        cases E.hp <;> try rfl
        simp only
        cases s.h i with
        | none => rfl
        | some blk =>
          cases blk <;> try rfl
          simp only
          cases tdOf E e with
          | none => rfl
          | some td => cases td <;> try rfl
                       rename_i k
                       cases k <;> rfl
      · rename_i e b
        simp only
        cases tdOf E e with
        | none => rfl
        | some td => cases td <;> try rfl
                     rename_i k
                     cases k <;> try rfl
                     cases E.hp <;> rfl
theorem convA_keep {S D : Nat} {x : AV} (h : effC E S D ≤ 1) : (convA E s S D x).sat (fun _ s' => s' = s) := by
  unfold effC at h
  unfold convA
  cases hS : tdOf E S with
  | none => trivial
  | some sd =>
    cases hD : tdOf E D with
    | none => trivial
    | some dd =>
      rw [hS, hD] at h
      cases dd <;> cases x <;> first | trivial | rfl | skip
      · cases sd <;> first | trivial | skip
        rename_i e
        simp only
        cases tdOf E e with
        | none => trivial
        | some td => cases td <;> first | trivial | skip
                     rename_i k
                     cases k <;> first | trivial | exact fun _ => rfl
      · rename_i i lo n sz cap
        cases sd <;> first | trivial | skip
        rename_i e
        cases E.hp <;> first | trivial | skip
        simp only
        cases s.h i with
        | none => trivial
        | some blk =>
          cases blk <;> first | trivial | skip
          simp only
          cases tdOf E e with
          | none => trivial
          | some td => cases td <;> first | trivial | skip
                       rename_i k
                       cases k <;> first | trivial | exact fun _ => rfl
      · rename_i e b
        simp only
        cases tdOf E e with
        | none => trivial
        | some td => cases td <;> first | trivial | skip
                     rename_i k
                     cases k <;> first | trivial | skip
                     cases hp : E.hp with
                     | false => rfl
                     | true => rw [hp] at h; cases sd <;> simp at h
theorem convA_mem {S D : Nat} {x : AV} (h : effC E S D = 0) (u : St) : convA E (s.withM u) S D x = (convA E s S D x).mapS (fun _ => s.withM u) := by
  unfold effC at h
  unfold convA
  cases hS : tdOf E S with
  | none => rfl
  | some sd =>
    cases hD : tdOf E D with
    | none => rfl
    | some dd =>
      rw [hS, hD] at h
      cases dd <;> cases x <;> try rfl
      · cases sd <;> try rfl
        rename_i e
        simp only
        cases tdOf E e with
        | none => rfl
        | some td => cases td <;> try rfl
                     rename_i k
                     cases k <;> rfl
      · rename_i i lo n sz cap
        cases sd <;> try rfl
        rename_i e
        cases hp : E.hp with
        | false => rfl
        | true => rw [hp] at h; simp at h
      · rename_i e b
        simp only
        cases tdOf E e with
        | none => rfl
        | some td => cases td <;> try rfl
                     rename_i k
                     cases k <;> try rfl
                     cases hp : E.hp with
                     | false => rfl
                     | true => rw [hp] at h; cases sd <;> simp at h
theorem convA_new {S D : Nat} {x : AV} (h : effC E S D ≤ 1) {b : Blk} (hh : ∀ i blk, s.h i = some blk → (s.new b).h i = some blk) {v : AV} {s' : St} (ht : (convA E s S D x).takes v s') : (convA E (s.new b) S D x).takes v (s.new b) := by
  unfold effC at h
  unfold convA at ht ⊢
  cases hS : tdOf E S with
  | none => rw [hS] at ht; exact ht
  | some sd =>
    cases hD : tdOf E D with
    | none => rw [hS, hD] at ht; exact ht
    | some dd =>
      rw [hS, hD] at h ht
      cases dd <;> cases x <;> first | exact ht.elim | exact ⟨ht.1, rfl⟩ | skip
      · cases sd <;> first | exact ht.elim | skip
        rename_i e
        simp only at ht ⊢
        cases he : tdOf E e with
        | none => rw [he] at ht; exact ht
        | some td => rw [he] at ht
                     cases td <;> first | exact ht.elim | skip
                     rename_i k
                     cases k <;> first | exact ht.elim | exact ⟨ht.1, ht.2.1, rfl⟩
      · rename_i i lo n sz cap
        cases sd <;> first | exact ht.elim | skip
        rename_i e
        cases hp : E.hp with
        | false => rw [hp] at ht; exact ht.elim
        | true =>
          rw [hp] at ht
          simp only at ht ⊢
          cases hi : s.h i with
          | none => rw [hi] at ht; exact ht.elim
          | some blk =>
            rw [hi] at ht
            rw [hh i blk hi]
            cases blk <;> first | exact ht.elim | skip
            simp only at ht ⊢
            cases he : tdOf E e with
            | none => rw [he] at ht; exact ht
            | some td => rw [he] at ht
                         cases td <;> first | exact ht.elim | skip
                         rename_i k
                         cases k <;> first | exact ht.elim | exact ⟨ht.1, ht.2.1, rfl⟩
      · rename_i e bb
        simp only at ht ⊢
        cases he : tdOf E e with
        | none => rw [he] at ht; exact ht
        | some td => rw [he] at ht
                     cases td <;> first | exact ht.elim | skip
                     rename_i k
                     cases k <;> first | exact ht.elim | skip
                     cases hp : E.hp with
                     | false => rw [hp] at ht; exact ⟨ht.1, rfl⟩
                     | true => rw [hp] at h; cases sd <;> simp at h
theorem convA_eff2 {S D : Nat} {x : AV} (h : effC E S D = 2) : (convA E s S D x).sat (fun _ s' => ∃ b, s' = s.new b) := by
  unfold effC at h
  unfold convA
  cases hS : tdOf E S with
  | none => trivial
  | some sd =>
    cases hD : tdOf E D with
    | none => trivial
    | some dd =>
      rw [hS, hD] at h
      cases hp : E.hp with
      | false => rw [hp] at h; simp at h
      | true =>
        rw [hp] at h
        cases dd <;> first | (cases sd <;> simp at h; done) | skip
        cases x <;> first | trivial | skip
        rename_i e b
        simp only
        cases tdOf E e with
        | none => trivial
        | some td => cases td <;> first | trivial | skip
                     rename_i k
                     cases k <;> first | trivial | exact ⟨_, rfl⟩
theorem makeSliceA_tau {τ : TT} {T : Nat} {x y : AV} : makeSliceA E (s.withT τ) T x y = (makeSliceA E s T x y).mapS (·.withT τ) := by
  unfold makeSliceA
  cases E.Γ T with
  | none => rfl
  | some ti =>
    simp only
    cases ti.d <;> try rfl
    rename_i e
    simp only
    cases E.Γ e with
    | none => rfl
    | some te =>
      cases x <;> try rfl
      rename_i k n
      cases k <;> try rfl
      cases y <;> try rfl
      rename_i k' m
      cases k' <;> try rfl
      cases E.hp <;> rfl
theorem buildRowA_tau {τ : TT} {T n : Nat} {l : List (Nat × AV)} : buildRowA E (s.withT τ) T n l = (buildRowA E s T n l).mapS (·.withT τ) := by
  unfold buildRowA
  simp only [forceL_eq]
  repeat' split
  all_goals rfl
theorem buildRowA_eff2 {T n : Nat} {l : List (Nat × AV)} : (buildRowA E s T n l).sat (fun _ s' => ∃ b, s' = s.new b) := by
  unfold buildRowA
  simp only [forceL_eq]
  repeat' split
  all_goals first | trivial | exact ⟨_, rfl⟩
theorem makeSliceA_st (hp : E.hp = false) (s u : St) {T : Nat} {x y : AV} : makeSliceA E u T x y = (makeSliceA E s T x y).mapS (fun _ => u) := by
  unfold makeSliceA
  cases E.Γ T with
  | none => rfl
  | some ti =>
    simp only
    cases ti.d <;> try rfl
    rename_i e
    simp only
    cases E.Γ e with
    | none => rfl
    | some te =>
      cases x <;> try rfl
      rename_i k n
      cases k <;> try rfl
      cases y <;> try rfl
      rename_i k' m
      cases k' <;> try rfl
      rw [hp]; rfl
theorem makeSliceA_eff2 (hp : E.hp = true) {T : Nat} {x y : AV} : (makeSliceA E s T x y).sat (fun _ s' => ∃ b, s' = s.new b) := by
  unfold makeSliceA
  cases E.Γ T with
  | none => trivial
  | some ti =>
    simp only
    cases ti.d <;> try trivial
    rename_i e
    simp only
    cases E.Γ e with
    | none => trivial
    | some te =>
      cases x <;> try trivial
      rename_i k n
      cases k <;> try trivial
      cases y <;> try trivial
      rename_i k' m
      cases k' <;> try trivial
      rw [hp]; exact fun _ => ⟨_, rfl⟩
theorem loadA_tau {τ : TT} {T : Nat} {x : AV} : loadA E (s.withT τ) T x = loadA E s T x := rfl
theorem loadR_eq {s : St} {T : Nat} {x : AV} (h : ∀ i j sz off, x ≠ .eptr i j sz off) : loadR E s T x = Res.of s (loadA E s T x) := by
  cases x <;> first | rfl | exact absurd rfl (h _ _ _ _)
theorem loadR_tau {τ : TT} {T : Nat} {x : AV} : loadR E (s.withT τ) T x = (loadR E s T x).mapS (·.withT τ) := by
  have gen : ∀ o : Option AV, Res.of (s.withT τ) o = (Res.of s o).mapS (·.withT τ) := fun o => by cases o <;> rfl
  cases x
  case eptr i j sz off =>
    unfold loadR
    simp only
    cases E.Γ T with
    | none => rfl
    | some ti =>
      show (match s.h i with | some (.arr U' sz' n f) => _ | _ => _) = _
      simp only
      cases s.h i with
      | none => rfl
      | some blk =>
        cases blk <;> try rfl
        rename_i sz' n f
        simp only
        cases cellsAt ti.d.agg ti.size (f j).cells off <;> rfl
  all_goals (rw [loadR_eq (by intros; simp)]; first | exact gen _ | (rw [loadR_eq (by intros; simp)]; exact gen _))
theorem loadR_keep {T : Nat} {x : AV} : (loadR E s T x).sat (fun _ s' => s' = s) := by
  have gen : ∀ o : Option AV, (Res.of s o).sat (fun _ s' => s' = s) := fun o => by cases o <;> first | trivial | rfl
  cases x
  case eptr i j sz off =>
    unfold loadR
    simp only
    cases E.Γ T with
    | none => trivial
    | some ti =>
      simp only
      cases s.h i with
      | none => trivial
      | some blk =>
        cases blk <;> try trivial
        rename_i sz' n f
        simp only
        cases cellsAt ti.d.agg ti.size (f j).cells off <;> first | trivial | exact fun _ => rfl
  all_goals (rw [loadR_eq (by intros; simp)]; first | exact gen _ | (rw [loadR_eq (by intros; simp)]; exact gen _))
theorem sliceA_st (s u : St) {T : Nat} {x : AV} {l h : Option AV} : sliceA E u T x l h = (sliceA E s T x l h).mapS (fun _ => u) := by
  unfold sliceA
  cases E.Γ T with
  | none => rfl
  | some ti =>
    simp only
    cases ti.d <;> cases x <;> try rfl
    · cases l with
      | none => cases h with
        | none => rfl
        | some h => cases h <;> rfl
      | some l => cases h with
        | none => cases l <;> rfl
        | some h => cases l <;> cases h <;> rfl
    · rename_i e _ _ _
      simp only
      cases E.Γ e with
      | none => rfl
      | some te =>
        cases l with
        | none => cases h with
          | none => rfl
          | some h => cases h <;> rfl
        | some l => cases h with
          | none => cases l <;> rfl
          | some h => cases l <;> cases h <;> rfl
    · rename_i e _ _ _ _ _
      simp only
      cases E.Γ e with
      | none => rfl
      | some te =>
        cases l with
        | none => cases h with
          | none => rfl
          | some h => cases h <;> rfl
        | some l => cases h with
          | none => cases l <;> rfl
          | some h => cases l <;> cases h <;> rfl
theorem indexAddrA_st (s u : St) {T : Nat} {x i : AV} : indexAddrA E u T x i = (indexAddrA E s T x i).mapS (fun _ => u) := by
  unfold indexAddrA
  cases E.Γ T with
  | none => rfl
  | some ti =>
    simp only
    cases ti.d <;> try rfl
    · rename_i e
      simp only
      cases E.Γ e with
      | none => rfl
      | some te => cases x <;> cases i <;> rfl
    · rename_i n e
      simp only
      cases E.Γ e with
      | none => rfl
      | some te => cases x <;> cases i <;> rfl
theorem indexA_st (s u : St) {T : Nat} {x i : AV} : indexA E u T x i = (indexA E s T x i).mapS (fun _ => u) := by
  unfold indexA
  cases E.Γ T with
  | none => rfl
  | some ti =>
    simp only
    cases ti.d <;> cases x <;> cases i <;> try rfl
    rename_i n e _ _ _
    simp only
    cases E.Γ e with
    | none => rfl
    | some te => simp only; cases te.d.agg <;> rfl
theorem callA_st (s u : St) {f : Nat} {l : List AV} : callA E u f l = (callA E s f l).mapS (fun _ => u) := by
  unfold callA
  cases pureL l with
  | none => rfl
  | some m => simp only; cases E.T f m <;> rfl
theorem callS_st (s u : St) (hh : u.h = s.h) {f : Nat} {l : List AV} : callS E u f l = (callS E s f l).mapS (fun _ => u) := by
  unfold callS
  rw [hh]
  cases pureL l with
  | some m => exact callA_st s u
  | none =>
    simp only
    cases snapL s.h l with
    | none => rfl
    | some as' =>
      simp only
      cases E.T f as' with
      | no => rfl
      | yes r => simp only; cases noRef r <;> rfl
      | need C r => simp only; cases noRef r <;> rfl
theorem minA_st (s u : St) {l : List AV} : minA u l = (minA s l).mapS (fun _ => u) := by
  match l with
  | [] => rfl
  | [x] => cases x <;> rfl
  | [x, y] => cases x <;> cases y <;> rfl
  | x :: y :: z :: r => cases x <;> cases y <;> rfl
theorem maxA_st (s u : St) {l : List AV} : maxA u l = (maxA s l).mapS (fun _ => u) := by
  match l with
  | [] => rfl
  | [x] => cases x <;> rfl
  | [x, y] => cases x <;> cases y <;> rfl
  | x :: y :: z :: r => cases x <;> cases y <;> rfl
theorem binA_st (s u : St) {op : BinOp} {T : Nat} {x y : AV} {c : Bool} : binA E u op T x y c = (binA E s op T x y c).mapS (fun _ => u) := by
  unfold binA
  repeat' split
  all_goals rfl
theorem unA_st (s u : St) {op : UnOp} {x : AV} : unA u op x = (unA s op x).mapS (fun _ => u) := by
  unfold unA
  repeat' split
  all_goals rfl
/-- the state that is handed on is the one that came in -/
theorem mapS_self {s : St} {R : Res} (f : St → St) (h : R = R.mapS (fun _ => s)) : R.mapS f = R.mapS (fun _ => f s) := by
  rw [h]; cases R <;> rfl

theorem appendB_tau {τ : TT} {T xT : Nat} {x y : AV} : appendB E (s.withT τ) T xT x y = (appendB E s T xT x y).mapS (·.withT τ) := by
  unfold appendB
  cases E.Γ T with
  | none => rfl
  | some ti =>
    cases tdOf E xT with
    | none => rfl
    | some xd =>
      simp only
      cases ti.d <;> try rfl
      rename_i e
      simp only
      cases E.Γ e with
      | none => rfl
      | some te =>
        cases xd <;> cases x <;> try rfl
        rename_i tag n f
        cases tag <;> cases y <;> rfl
theorem appendG_tau {τ : TT} {T xT : Nat} {x y : AV} : appendG E (s.withT τ) T xT x y = (appendG E s T xT x y).mapS (·.withT τ) := by
  unfold appendG
  cases E.Γ T with
  | none => rfl
  | some ti =>
    cases tdOf E xT with
    | none => rfl
    | some xd =>
      simp only
      cases ti.d <;> try rfl
      rename_i e
      simp only
      cases E.Γ e with
      | none => rfl
      | some te =>
        have hh : ∀ i, (s.withT τ).h i = s.h i := fun i => rfl
        cases xd <;> try rfl
        · cases y <;> try rfl
          cases x <;> try rfl
          · rename_i tag _ _
            cases tag <;> rfl
          · simp only [hh]
            rename_i i _ _ _ _
            cases s.h i with
            | none => rfl
            | some blk => cases blk <;> rfl
        · cases y <;> try rfl
          · cases x <;> try rfl
            · rename_i tag _ _
              cases tag <;> rfl
            · simp only [hh]
              rename_i i _ _ _ _
              cases s.h i with
              | none => rfl
              | some blk => cases blk <;> rfl
          · rename_i i2 _ _ _ _
            simp only [hh]
            cases s.h i2 with
            | none => rfl
            | some blk2 =>
              cases blk2 <;> try rfl
              cases x <;> try rfl
              · rename_i tag _ _
                cases tag <;> rfl
              · rename_i i _ _ _ _
                simp only
                cases s.h i with
                | none => rfl
                | some blk => cases blk <;> rfl
theorem appendA_tau {τ : TT} {T xT : Nat} {x y : AV} : appendA E (s.withT τ) T xT x y = (appendA E s T xT x y).mapS (·.withT τ) := by
  unfold appendA
  cases E.ap <;> simp only
  rotate_left
  · exact appendB_tau
  cases E.gp <;> simp only
  · cases isHs x <;> cases isHs y <;> first | exact appendB_tau | exact appendG_tau
  · cases isTok x <;> first | exact appendB_tau | exact appendG_tau
theorem lenA_tau {τ : TT} {T : Nat} {x : AV} : lenA E (s.withT τ) T x = (lenA E s T x).mapS (·.withT τ) := by
  unfold lenA
  cases tdOf E T with
  | none => rfl
  | some d =>
    cases d <;> cases x <;> try rfl
    rename_i i
    show (match s.h i with | some (.map es) => Res.ok (.int .i64 es.length) (s.withT τ) | _ => .fail) = _
    simp only
    cases s.h i with
    | none => rfl
    | some blk => cases blk <;> rfl

/-- Another tree of slots: what operations give does not hang on it, but through their operands. -/
theorem opF_tau {op : Op} {τ : TT} (h : ∀ x ∈ op.operands.toList, ev (s.withT τ) x = ev s x) : opF E op (s.withT τ) = (opF E op s).mapS (·.withT τ) := by
  have kx : ∀ {x : Operand}, x ∈ op.operands.toList → ev (s.withT τ) x = ev s x := fun hx => h _ hx
  cases op with
  | move x => simp only [opF, evR_eq, kx (x := x) (by simp [Op.operands]), mapS_of]
  | assign x => simp only [opF, evR_eq, kx (x := x) (by simp [Op.operands]), mapS_of]
  | pick c x y =>
    simp only [opF, evF_eq, evR_eq, kx (x := c) (by simp [Op.operands]), kx (x := x) (by simp [Op.operands]), kx (x := y) (by simp [Op.operands])]
    cases ev s c with
    | none => rfl
    | some v => cases v <;> first | rfl | (rename_i b; cases b <;> simp only [mapS_of])
  | alloc T =>
    simp only [opF, allocA]
    cases E.Γ T with
    | none => rfl
    | some ti => simp only [forceL_eq]; cases E.bt T <;> rfl
  | box T x =>
    simp only [opF, evF_eq, kx (x := x) (by simp [Op.operands])]
    cases ev s x with
    | none => rfl
    | some v => cases v <;> rfl
  | build T ps =>
    have hp : parts (s.withT τ) ps.toList = parts s ps.toList := parts_congr (fun x hx => h x (by simp only [Op.operands, List.toList_toArray]; exact hx))
    simp only [opF, partsF_eq, hp]
    cases parts s ps.toList with
    | none => rfl
    | some l => simp only [mapS_of]
  | buildSlice T n ps =>
    have hp : parts (s.withT τ) ps.toList = parts s ps.toList := parts_congr (fun x hx => h x (by simp only [Op.operands, List.toList_toArray]; exact hx))
    simp only [opF, partsF_eq, hp]
    cases parts s ps.toList with
    | none => rfl
    | some l => cases E.bp T <;> simp only [mapS_of, buildRowA_tau]
  | load T x =>
    simp only [opF, evF_eq, kx (x := x) (by simp [Op.operands])]
    cases ev s x with
    | none => rfl
    | some v => exact loadR_tau
  | store T x y =>
    simp only [opF, evF_eq, kx (x := x) (by simp [Op.operands]), kx (x := y) (by simp [Op.operands])]
    cases ev s x with
    | none => rfl
    | some v =>
      cases ev s y with
      | none => rfl
      | some u =>
        simp only [storeA, forceL_eq]
        cases E.Γ T with
        | none => rfl
        | some ti =>
          cases v <;> try rfl
          case eptr i j sz off =>
            show (match s.h i with | some (.arr U' sz' n f) => _ | _ => _) = _
            simp only
            cases hh : s.h i with
            | none => rfl
            | some blk =>
              cases blk <;> try rfl
              rename_i sz' n f
              simp only
              cases Nat.beq off 0 && Nat.beq ti.size sz
              · simp only
                cases ones u.cells <;> cases Nat.beq u.cells.length ti.size <;> cases Nat.ble (off + ti.size) (f j).cells.length <;> try rfl
                simp only
                cases putE (f j) off u with
                | none => rfl
                | some z => simp only [force_eq]; rfl
              · simp only
                cases ones u.cells <;> cases Nat.beq u.cells.length ti.size <;> try rfl
                simp only [force_eq]; rfl
          rename_i i off
          show (match s.h i with | some (.cells cs) => _ | some (.tcells U cs) => _ | _ => _) = _
          cases hh : s.h i with
          | none => simp only [hh]; rfl
          | some blk =>
            cases blk with
            | map es => simp only [hh]; rfl
            | arr T sz n f => simp only [hh]; rfl
            | siter b p => simp only [hh]; rfl
            | tcells U cs =>
              simp only [hh]
              cases ones u.cells <;> cases Nat.beq u.cells.length ti.size <;> cases Nat.ble (off + ti.size) cs.length <;> rfl
            | cells cs =>
              simp only [hh]
              cases ones u.cells <;> cases Nat.beq u.cells.length ti.size <;> cases Nat.ble (off + ti.size) cs.length <;> rfl
  | nilCheck x =>
    simp only [opF, evF_eq, kx (x := x) (by simp [Op.operands])]
    cases ev s x with
    | none => rfl
    | some v => cases v <;> rfl
  | binOp bop T x y yT =>
    simp only [opF, evF_eq, kx (x := x) (by simp [Op.operands]), kx (x := y) (by simp [Op.operands])]
    cases ev s x with
    | none => rfl
    | some v =>
      cases ev s y with
      | none => rfl
      | some u =>
        simp only
        rw [mapS_self _ (binA_st s s), ← binA_st s]
  | unOp uop T x =>
    simp only [opF, evF_eq, kx (x := x) (by simp [Op.operands])]
    cases ev s x with
    | none => rfl
    | some v => simp only; rw [mapS_self _ (unA_st s s), ← unA_st s]
  | convert S D x =>
    simp only [opF, evF_eq, kx (x := x) (by simp [Op.operands])]
    cases ev s x with
    | none => rfl
    | some v => exact convA_tau
  | makeFunc fn first cap =>
    cases fn with
    | func f =>
      have h1 : evs (s.withT τ) first.toList = evs s first.toList := evs_congr (fun x hx => kx (by simp [Op.operands]; exact .inl (by simpa using hx)))
      have h2 : evs (s.withT τ) cap.toList = evs s cap.toList := evs_congr (fun x hx => kx (by simp [Op.operands]; exact .inr (by simpa using hx)))
      simp only [opF, evsF_eq, h1, h2]
      cases evs s first.toList with
      | none => rfl
      | some l => cases evs s cap.toList <;> rfl
    | _ => rfl
  | makeMap T r => cases r <;> rfl
  | makeSlice T l c =>
    simp only [opF, evF_eq, kx (x := l) (by simp [Op.operands]), kx (x := c) (by simp [Op.operands])]
    cases ev s l with
    | none => rfl
    | some v =>
      cases ev s c with
      | none => rfl
      | some u => exact makeSliceA_tau
  | slice T x lo hi mx =>
    cases mx with
    | some m => rfl
    | none =>
      have h1 : evo (s.withT τ) lo = evo s lo := evo_congr (fun y hy => kx (by simp [Op.operands, hy]))
      have h2 : evo (s.withT τ) hi = evo s hi := evo_congr (fun y hy => kx (by simp [Op.operands, hy]))
      simp only [opF, evF_eq, kx (x := x) (by simp [Op.operands]), h1, h2]
      cases ev s x with
      | none => rfl
      | some v =>
        cases evo s lo with
        | none => rfl
        | some l =>
          cases evo s hi with
          | none => rfl
          | some h => simp only; rw [mapS_self _ (sliceA_st s s), ← sliceA_st s]
  | fieldAddr S x f =>
    simp only [opF, evF_eq, kx (x := x) (by simp [Op.operands])]
    cases ev s x with
    | none => rfl
    | some v => simp only [mapS_of]
  | field S x f =>
    simp only [opF, evF_eq, kx (x := x) (by simp [Op.operands])]
    cases ev s x with
    | none => rfl
    | some v => simp only [mapS_of]
  | indexAddr T x i =>
    simp only [opF, evF_eq, kx (x := x) (by simp [Op.operands]), kx (x := i) (by simp [Op.operands])]
    cases ev s x with
    | none => rfl
    | some v =>
      cases ev s i with
      | none => rfl
      | some u => simp only; rw [mapS_self _ (indexAddrA_st s s), ← indexAddrA_st s]
  | index T x i =>
    simp only [opF, evF_eq, kx (x := x) (by simp [Op.operands]), kx (x := i) (by simp [Op.operands])]
    cases ev s x with
    | none => rfl
    | some v =>
      cases ev s i with
      | none => rfl
      | some u => simp only; rw [mapS_self _ (indexA_st s s), ← indexA_st s]
  | lookup T x i ok =>
    simp only [opF, evF_eq, kx (x := x) (by simp [Op.operands]), kx (x := i) (by simp [Op.operands])]
    cases ev s x with
    | none => rfl
    | some v =>
      cases ev s i with
      | none => rfl
      | some u =>
        simp only
        unfold lookupA
        have hh : (s.withT τ).h = s.h := rfl
        simp only [hh]
        repeat' split
        all_goals rfl
  | mapUpdate T m k x =>
    simp only [opF, evF_eq, kx (x := m) (by simp [Op.operands]), kx (x := k) (by simp [Op.operands]), kx (x := x) (by simp [Op.operands])]
    cases ev s m with
    | none => rfl
    | some v =>
      cases ev s k with
      | none => rfl
      | some u =>
        cases ev s x with
        | none => rfl
        | some w =>
          simp only
          unfold mapSetA
          have hh : (s.withT τ).h = s.h := rfl
          simp only [hh]
          repeat' split
          all_goals rfl
  | insert T m k x =>
    simp only [opF, evF_eq, kx (x := m) (by simp [Op.operands]), kx (x := k) (by simp [Op.operands]), kx (x := x) (by simp [Op.operands])]
    cases ev s m with
    | none => rfl
    | some v =>
      cases ev s k with
      | none => rfl
      | some u =>
        cases ev s x with
        | none => rfl
        | some w =>
          simp only
          unfold mapSetA
          have hh : (s.withT τ).h = s.h := rfl
          simp only [hh]
          repeat' split
          all_goals rfl
  | extract x i =>
    simp only [opF, evF_eq, kx (x := x) (by simp [Op.operands])]
    cases ev s x with
    | none => rfl
    | some v => cases v <;> first | rfl | (simp only [mapS_of]; done) | (simp only [partN]; split <;> rfl)
  | range T x =>
    simp only [opF, evF_eq, kx (x := x) (by simp [Op.operands])]
    cases ev s x with
    | none => rfl
    | some v =>
      simp only [rangeA]
      split <;> rfl
  | next x b =>
    cases b with
    | false => rfl
    | true =>
      simp only [opF, evF_eq, kx (x := x) (by simp [Op.operands])]
      cases ev s x with
      | none => rfl
      | some v =>
        simp only
        unfold nextA
        have hh : (s.withT τ).h = s.h := rfl
        simp only [hh]
        repeat' split
        all_goals rfl
  | call c =>
    obtain ⟨callee, cargs, argTypes⟩ := c
    have h1 : evs (s.withT τ) cargs.toList = evs s cargs.toList := evs_congr (fun x hx => kx (by simp [Op.operands, Call.operands]; exact .inr (by simpa using hx)))
    simp only [opF, evsF_eq, h1]
    cases evs s cargs.toList with
    | none => rfl
    | some args =>
      cases callee with
      | value f =>
        simp only [evF_eq, kx (x := f) (by simp [Op.operands, Call.operands])]
        cases ev s f with
        | none => rfl
        | some v => cases v <;> first | rfl | (simp only; cases isTmp f <;> simp only <;> first | rw [mapS_self _ (callA_st s s), ← callA_st s] | (rw [mapS_self _ (callS_st s s rfl)]; exact callS_st s (s.withT τ) rfl))
      | invoke x m => rfl
      | builtin b =>
        cases b <;> first | rfl | skip
        · match args, argTypes[0]?, argTypes[1]? with
          | [x, y], some T, some xT => exact appendA_tau
          | [], _, _ => rfl
          | [_], _, _ => rfl
          | _ :: _ :: _ :: _, _, _ => rfl
          | [_, _], none, _ => rfl
          | [_, _], some _, none => rfl
        · match args, argTypes[0]? with
          | [x], some T => exact lenA_tau
          | [], _ => rfl
          | _ :: _ :: _, _ => rfl
          | [_], none => rfl
        · show maxA _ _ = _; rw [mapS_self _ (maxA_st s s), ← maxA_st s]
        · show minA _ _ = _; rw [mapS_self _ (minA_st s s), ← minA_st s]
  | _ => rfl
end
end Go.Ab
