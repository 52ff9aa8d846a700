/- The symbolic evaluator: the soundness of its operations: all of them. -/
import Derived.Test.YtejepcnoflahkaaGreatDoorAbSound6
namespace Go.Ab
set_option linter.unusedVariables false
set_option linter.unusedSimpArgs false
section
variable {P : Program} {E : Env} {s : St} {a : Act} {X : Cx}

theorem arr_map {α β : Type} (f : α → β) (l : Array α) : (l.map f) = (l.toList.map f).toArray := by
  apply Array.ext'; simp

theorem calls_sound (hE : EnvOk P E) (hg : GB E.G X) (r : Rel s a X) {o : Oper} {g : Nat} {l : List AV} {vs : List Value} (hl : RepL X false l vs) (hrun : (execOp a.eval o).run P X.w = (callFunc g vs.toArray).run P X.w) :
    (callA E s g l).sat (Gives P o a X) := by
  unfold callA
  split
  · trivial
  · rename_i as' hp
    have hpl := pureL_rep hp hl
    have ht := hE.t g as'
    split
    · trivial
    · rename_i v hv
      rw [hv] at ht
      exact called_gives r (hE.at_ hg) ht hpl hrun
    · rename_i C v hv
      rw [hv] at ht
      exact fun hC => called_gives r (hE.at_ hg) (ht hC) hpl hrun

mutual
theorem noRef_rep {X Y : Cx} {q : Bool} : ∀ {p : Bool} {a : AV} {v : Value}, Rep X p a v → noRef a = true → Rep Y q a v
  | _, _, _, .any .., _ => .any ..
  | _, _, _, .int .., _ => .int ..
  | _, _, _, .bool .., _ => .bool ..
  | _, _, _, .str .., _ => .str ..
  | _, _, _, .agg h, hb => .agg (noRefL_rep h (by simpa [noRef] using hb))
  | _, _, _, .tup h, hb => .tup (noRefL_rep h (by simpa [noRef] using hb))
  | _, _, _, .nilp .., _ => .nilp ..
  | _, _, _, .nilm .., _ => .nilm ..
  | _, _, _, .nilf .., _ => .nilf ..
  | _, _, _, .nili .., _ => .nili ..
  | _, _, _, .snil .., hb => by simp [noRef] at hb
  | _, _, _, .sl .., hb => by simp [noRef] at hb
  | _, _, _, .ptr .., hb => by simp [noRef] at hb
  | _, _, _, .hs .., hb => by simp [noRef] at hb
  | _, _, _, .hs0 .., hb => by simp [noRef] at hb
  | _, _, _, .eptr .., hb => by simp [noRef] at hb
  | _, _, _, .cptr .., hb => by simp [noRef] at hb
  | _, _, _, .map .., hb => by simp [noRef] at hb
  | _, _, _, .clo .., hb => by simp [noRef] at hb
  | _, _, _, .ifc h, hb => .ifc (noRef_rep h (by simpa [noRef] using hb))
  | _, _, _, .nxtT .., _ => .nxtT ..
  | _, _, _, .nxtF .., _ => .nxtF ..
theorem noRefL_rep {X Y : Cx} {q : Bool} : ∀ {p : Bool} {a : List AV} {v : List Value}, RepL X p a v → noRefL a = true → RepL Y q a v
  | _, _, _, .nil, _ => .nil
  | _, _, _, .cons h hs, hb => .cons (noRef_rep h (by simp only [noRefL] at hb; split at hb <;> first | assumption | cases hb)) (noRefL_rep hs (by simp only [noRefL] at hb; split at hb <;> first | assumption | cases hb))
end
/-- With one's own blocks held still. -/
def Cx.still (X : Cx) : Nat → Option Nat := fun b => match X.own b with
  | some (.inl _) => none
  | _ => X.L b
theorem still_ext (X : Cx) : Ext X (Cx.bare X.w X.still) := fun b o v ⟨h1, h2⟩ => ⟨h1, fun n hn => h2 n (by
  have hn : X.still b = some n := hn
  unfold Cx.still at hn
  split at hn
  · cases hn
  · exact hn)⟩
theorem pureCells_rep {x y : AV} {vs : List Value} (h : pureOf x = some y) (hx : RepL X false x.cells vs) : RepL X true y.cells vs := by
  have one : ∀ {x y : AV}, pureOf x = some y → x.cells = [x] → y.cells = [y] → RepL X false x.cells vs → RepL X true y.cells vs := by
    intro x y h e1 e2 hx
    rw [e1] at hx
    rw [e2]
    cases hx with | cons hv hs => cases hs; exact .cons (pureOf_rep h hv) .nil
  cases x with
  | agg cs =>
    simp only [pureOf] at h
    split at h
    · rename_i l hl
      injection h with h; subst h
      exact pureL_rep hl hx
    · cases h
  | sl tag n f => cases tag <;> (simp only [pureOf, Option.some.injEq] at h; subst h; exact one (by rfl) rfl rfl hx)
  | tup cs =>
    refine one h rfl ?_ hx
    simp only [pureOf] at h
    split at h <;> cases h; rfl
  | clo f a b =>
    refine one h rfl ?_ hx
    simp only [pureOf] at h
    split at h <;> cases h; rfl
  | ifc t v =>
    refine one h rfl ?_ hx
    simp only [pureOf] at h
    split at h <;> cases h; rfl
  | ptr i o => cases h
  | hs => cases h
  | eptr => cases h
  | map i => cases h
  | nxt => cases h
  | _ => simp only [pureOf, Option.some.injEq] at h; subst h; exact one (by rfl) rfl rfl hx
theorem snapA_rep (r : Rel s a X) {x y : AV} {v : Value} (h : snapA s.h x = some y) (hx : Rep X false x v) : Rep (Cx.bare X.w X.still) true y v := by
  have gen : ∀ {x y : AV} {v : Value}, pureOf x = some y → Rep X false x v → Rep (Cx.bare X.w X.still) true y v := fun h hx => Rep.pmono (still_ext X) rfl (pureOf_rep h hx)
  unfold snapA at h
  split at h
  · rename_i i off
    cases hx with | ptr _ hμ =>
    rename_i b
    split at h
    · rename_i cs hi
      obtain ⟨vs, T, h1, h2⟩ := r.blk hi hμ
      split at h
      · rename_i l hl
        injection h with h; subst h
        have h3 := RepL.pmono (still_ext X) rfl (pureL_rep hl h2)
        have := Rep.cptr (X := Cx.bare X.w X.still) (p := true) (b := b) (o := 0) (off := off) h3 fun j v hv => ⟨by
          show X.w.cell? ⟨b, 0 + j, none⟩ = some v
          rw [cell_eq h1, Nat.zero_add]; simpa using hv, fun n hn => by
          have hn : X.still b = some n := hn
          unfold Cx.still at hn
          rw [(r.ow i _ b hi hμ).1] at hn
          cases hn⟩
        rw [Nat.zero_add] at this
        exact this
      · cases h
    · cases h
  · rename_i i lo n sz cp
    cases hx with
    | hs0 _ _ _ _ _ _ =>
      split at h
      · split at h
        · injection h with h; subst h
          exact .snil _ none trivial (fun h => by cases h)
        · cases h
      · cases h
    | hs _ _ _ _ cap o hμ hlt hz hn hc ho hbs =>
    rename_i b
    split at h
    · rename_i T' sz' m f hi
      obtain ⟨vs, fr, h1, _, _, hm, hvl, hr⟩ := r.blk hi hμ
      split at h
      · rename_i e1 e2
        have e1 := Nat.eq_of_beq_eq_true e1
        have e2 := Nat.le_of_ble_eq_true e2
        subst e1
        injection h with h; subst h
        have hrow : ∀ j, j < n → RepL X true (snapE sz (f (lo + j))).cells ((vs.drop ((lo + j) * sz)).take sz) := fun j hj => by
          have hrj := hr (lo + j) (by omega)
          have hle : (lo + j + 1) * sz ≤ m * sz := Nat.mul_le_mul_right _ (by omega)
          rw [Nat.succ_mul] at hle
          unfold snapE
          split
          · rename_i y hy
            exact pureCells_rep hy hrj
          · have : ((vs.drop ((lo + j) * sz)).take sz).length = sz := by simp; omega
            have aux : ∀ l : List Value, RepL X true (List.replicate l.length AV.any) l := fun l => by
              induction l with
              | nil => exact .nil
              | cons v l ih => exact .cons (.any ..) ih
            have := aux ((vs.drop ((lo + j) * sz)).take sz)
            rwa [‹((vs.drop ((lo + j) * sz)).take sz).length = sz›] at this
        refine .sl b o cap sz (fun j => (vs.drop ((lo + j) * sz)).take sz) hz hn (fun j hj => RepL.pmono (still_ext X) rfl (hrow j hj)) (fun j hj => ?_) (fun j hj q v hv => ?_) trivial
        · have hle : (lo + j + 1) * sz ≤ m * sz := Nat.mul_le_mul_right _ (by omega)
          rw [Nat.succ_mul] at hle
          simp; omega
        · have ho' : o = lo * sz := ho.resolve_left (by omega)
          refine ⟨?_, fun k hk => ?_⟩
          · show X.w.cell? ⟨b, o + j * sz + q, none⟩ = some v
            rw [List.getElem?_take] at hv
            split at hv
            · rw [List.getElem?_drop] at hv
              rw [cell_eq h1, List.getElem?_toArray, ho', ← hv, Nat.add_mul]
            · cases hv
          · have hk : X.still b = some k := hk
            unfold Cx.still at hk
            rw [(r.ow i _ b hi hμ).1] at hk
            cases hk
      · cases h
    · cases h
  · exact gen h hx
theorem frzL_rep {X Z : Cx} {g : AV → Option AV} (hg : ∀ {x y : AV} {v : Value}, g x = some y → Rep X false x v → Rep Z true y v) : ∀ {l l' : List AV} {vs : List Value}, frzL g l = some l' → RepL X false l vs → RepL Z true l' vs
  | [], l', vs, h, hx => by simp only [frzL, Option.some.injEq] at h; subst h; cases hx; exact .nil
  | x :: l, l', vs, h, hx => by
    simp only [frzL] at h
    split at h
    · rename_i y ys h1 h2
      injection h with h; subst h
      cases hx with | cons hx hs => exact .cons (hg h1 hx) (frzL_rep hg h2 hs)
    · cases h
theorem RepL.anys {X : Cx} : ∀ l : List Value, RepL X true (List.replicate l.length AV.any) l
  | [] => .nil
  | v :: l => .cons (.any ..) (RepL.anys l)
theorem frz_shape {h : Nat → Option Blk} {k : Nat} {x y : AV} (hy : frz h k x = some y) : (∃ cs, x = .agg cs) ∨ (x.cells = [x] ∧ y.cells = [y]) := by
  have pure : ∀ {x y : AV}, pureOf x = some y → (∃ cs, x = .agg cs) ∨ (x.cells = [x] ∧ y.cells = [y]) := by
    intro x y h
    cases x with
    | agg cs => exact .inl ⟨_, rfl⟩
    | sl tag n f => cases tag <;> (simp only [pureOf, Option.some.injEq] at h; subst h; exact .inr ⟨rfl, rfl⟩)
    | tup cs => simp only [pureOf] at h; split at h <;> cases h; exact .inr ⟨rfl, rfl⟩
    | clo f a b => simp only [pureOf] at h; split at h <;> cases h; exact .inr ⟨rfl, rfl⟩
    | nxt => cases h
    | ifc t v => simp only [pureOf] at h; split at h <;> cases h; exact .inr ⟨rfl, rfl⟩
    | ptr i o => cases h
    | hs => cases h
    | eptr => cases h
    | map i => cases h
    | _ => simp only [pureOf, Option.some.injEq] at h; subst h; exact .inr ⟨rfl, rfl⟩
  cases k with
  | zero => exact pure hy
  | succ k =>
    cases x
    case agg cs => exact .inl ⟨_, rfl⟩
    case ptr i off =>
      refine .inr ⟨rfl, ?_⟩
      simp only [frz] at hy
      split at hy
      · split at hy
        · cases hy; rfl
        · cases hy
      · cases hy
    case hs i lo n sz cap =>
      refine .inr ⟨rfl, ?_⟩
      simp only [frz] at hy
      split at hy
      · split at hy
        · cases hy; rfl
        · cases hy
      · cases hy
    case tup cs =>
      refine .inr ⟨rfl, ?_⟩
      simp only [frz] at hy
      split at hy
      · cases hy; rfl
      · cases hy
    all_goals exact pure hy
theorem frz_rep (r : Rel s a X) : ∀ (k : Nat) {x y : AV} {v : Value}, frz s.h k x = some y → Rep X false x v → Rep (Cx.bare X.w X.still) true y v
  | 0, x, y, v, h, hx => Rep.pmono (still_ext X) rfl (pureOf_rep h hx)
  | k + 1, x, y, v, h, hx => by
    have ih : ∀ {x y : AV} {v : Value}, frz s.h k x = some y → Rep X false x v → Rep (Cx.bare X.w X.still) true y v := fun h hx => frz_rep r k h hx
    have hstill : ∀ {i b blk}, s.h i = some blk → X.μ i = some b → ∀ o, (Cx.bare X.w X.still).ok b o := fun {i b blk} hi hb o n hn => by
      have hn : X.still b = some n := hn
      unfold Cx.still at hn
      rw [(r.ow i _ b hi hb).1] at hn
      cases hn
    cases x
    case agg cs =>
      simp only [frz] at h
      split at h
      · rename_i l hl
        injection h with h; subst h
        cases hx with | agg hx => exact .agg (frzL_rep ih hl hx)
      · cases h
    case tup cs =>
      simp only [frz] at h
      split at h
      · rename_i l hl
        injection h with h; subst h
        cases hx with | tup hx => exact .tup (frzL_rep ih hl hx)
      · cases h
    case ptr i off =>
      simp only [frz] at h
      cases hx with | ptr _ hμ =>
      rename_i b
      split at h
      · rename_i cs hi
        obtain ⟨vs, T, h1, h2⟩ := r.blk hi hμ
        split at h
        · rename_i l hl
          injection h with h; subst h
          have := Rep.cptr (X := Cx.bare X.w X.still) (p := true) (b := b) (o := 0) (off := off) (frzL_rep ih hl h2) fun j v hv => ⟨by
            show X.w.cell? ⟨b, 0 + j, none⟩ = some v
            rw [cell_eq h1, Nat.zero_add]; simpa using hv, hstill hi hμ _⟩
          rw [Nat.zero_add] at this
          exact this
        · cases h
      · cases h
    case hs i lo n sz cp =>
      simp only [frz] at h
      cases hx with
      | hs0 _ _ _ _ _ _ =>
        split at h
        · split at h
          · injection h with h; subst h
            exact .snil _ none trivial (fun h => by cases h)
          · cases h
        · cases h
      | hs _ _ _ _ cap o hμ hlt hz hn hc ho hbs =>
      rename_i b
      split at h
      · rename_i T' sz' m f hi
        obtain ⟨vs, fr, h1, _, _, hm, hvl, hr⟩ := r.blk hi hμ
        split at h
        · rename_i e1 e2
          have e1 := Nat.eq_of_beq_eq_true e1
          have e2 := Nat.le_of_ble_eq_true e2
          subst e1
          injection h with h; subst h
          have hlen : ∀ j, j < n → ((vs.drop ((lo + j) * sz)).take sz).length = sz := fun j hj => by
            have hle : (lo + j + 1) * sz ≤ m * sz := Nat.mul_le_mul_right _ (by omega)
            rw [Nat.succ_mul] at hle
            simp; omega
          refine .sl b o cap sz (fun j => (vs.drop ((lo + j) * sz)).take sz) hz hn (fun j hj => ?_) hlen (fun j hj q v hv => ?_) trivial
          · have hrj := hr (lo + j) (by omega)
            split
            · rename_i y hy
              rcases frz_shape hy with ⟨cs, he⟩ | ⟨q1, q2⟩
              · rw [he] at hy hrj
                cases k with
                | zero => exact RepL.pmono (still_ext X) rfl (pureCells_rep hy hrj)
                | succ k =>
                  simp only [frz] at hy
                  split at hy
                  · rename_i l hl
                    injection hy with hy; subst hy
                    exact frzL_rep (fun h hx => frz_rep r k h hx) hl hrj
                  · cases hy
              · rw [q1] at hrj
                rw [q2]
                generalize (vs.drop ((lo + j) * sz)).take sz = row at hrj ⊢
                cases hrj with | cons hv hs => cases hs; exact .cons (ih hy hv) .nil
            · have := RepL.anys (X := Cx.bare X.w X.still) ((vs.drop ((lo + j) * sz)).take sz)
              rwa [hlen j hj] at this
          · have ho' : o = lo * sz := ho.resolve_left (by omega)
            refine ⟨?_, hstill hi hμ _⟩
            show X.w.cell? ⟨b, o + j * sz + q, none⟩ = some v
            rw [List.getElem?_take] at hv
            split at hv
            · rw [List.getElem?_drop] at hv
              rw [cell_eq h1, List.getElem?_toArray, ho', ← hv, Nat.add_mul]
            · cases hv
        · cases h
      · cases h
    all_goals exact Rep.pmono (still_ext X) rfl (pureOf_rep h hx)
theorem snapL_rep (r : Rel s a X) : ∀ {l l' : List AV} {vs : List Value}, snapL s.h l = some l' → RepL X false l vs → RepL (Cx.bare X.w X.still) true l' vs
  | [], l', vs, h, hx => by simp only [snapL, Option.some.injEq] at h; subst h; cases hx; exact .nil
  | x :: l, l', vs, h, hx => by
    simp only [snapL] at h
    split at h
    · rename_i y ys h1 h2
      injection h with h; subst h
      cases hx with | cons hx hs => exact .cons (snapA_rep r h1 hx) (snapL_rep r h2 hs)
    · cases h
theorem snap_gives (hE : EnvOk P E) (hg : GB E.G X) (r : Rel s a X) {o : Oper} {g : Nat} {l as' : List AV} {vs : List Value} {v : AV} (hs : snapL s.h l = some as') (hl : RepL X false l vs) (hc : callable P g = true) (hp : PC P E.G g as' v) (hv : noRef v = true)
    (hrun : (execOp a.eval o).run P X.w = (callFunc g vs.toArray).run P X.w) : Gives P o a X v s := by
  intro next Q hn
  unfold Oper.wp
  rw [hrun, run_callFunc hc, Oper.upon_enter]
  refine (hp X.w X.still vs (hE.at_ hg) (snapL_rep r hs hl)).mono ?_
  rintro e w' ⟨cv, L', rfl, hr, hb, hL⟩
  let Y : Cx := ⟨w', fun b => if b < X.w.heap.size then X.L b else none, X.μ, X.τ, X.κ, fun b => if b < X.w.heap.size then X.own b else none, X.bs⟩
  have hS : Same X Y := {
    os := hb.os
    tape := hb.tape
    output := hb.output
    size := hb.size
    blk := hb.block
    L := fun b hlt => by simp only [Y, if_pos hlt]
    own := fun b hlt => by simp only [Y, if_pos hlt]
    bs := rfl
    mu := rfl
    tau := rfl
    kappa := rfl }
  exact hn cv Y (hS.rel r) (noRef_rep hr hv) hS.fr
theorem snapped_gives (hE : EnvOk P E) (hg : GB E.G X) (r : Rel s a X) {o : Oper} {g : Nat} {l as' : List AV} {vs : List Value} {v : AV} (hs : snapL s.h l = some as') (hl : RepL X false l vs) (hc : Called P E.G g as' v) (hv : noRef v = true)
    (hrun : (execOp a.eval o).run P X.w = (callFunc g vs.toArray).run P X.w) : Gives P o a X v s := by
  rcases hc with ⟨hc, hp⟩ | hx
  · exact snap_gives hE hg r hs hl hc hp hv hrun
  · obtain ⟨cv, h1, h2⟩ := hx (Cx.bare X.w X.still) vs (snapL_rep r hs hl)
    exact Gives.val (hrun.trans h1) r (noRef_rep h2 hv)
theorem callS_sound (hE : EnvOk P E) (hg : GB E.G X) (r : Rel s a X) {o : Oper} {g : Nat} {l : List AV} {vs : List Value} (hl : RepL X false l vs) (hrun : (execOp a.eval o).run P X.w = (callFunc g vs.toArray).run P X.w) :
    (callS E s g l).sat (Gives P o a X) := by
  unfold callS
  split
  · exact calls_sound hE hg r hl hrun
  · split
    · trivial
    · rename_i as' hs
      have ht := hE.t g as'
      split
      · trivial
      · rename_i v hv
        rw [hv] at ht
        split
        · rename_i hnr; exact snapped_gives hE hg r hs hl ht hnr hrun
        · trivial
      · rename_i C v hv
        rw [hv] at ht
        split
        · rename_i hnr; exact fun hC => snapped_gives hE hg r hs hl (ht hC) hnr hrun
        · trivial

theorem opF_sound (hE : EnvOk P E) (hg : GB E.G X) (r : Rel s a X) (o : Oper) : (opF E o.op s).sat (Gives P o a X) := by
  obtain ⟨dst, op, type, pos, after, guard⟩ := o
  unfold opF
  cases op with
  | move x => show (evR s x).sat _; rw [evR_eq]; exact Res.sat_of fun v hv => Gives.val (cv := a.eval x) (by simp [execOp]) r (ev_rep r hv)
  | assign x => show (evR s x).sat _; rw [evR_eq]; exact Res.sat_of fun v hv => Gives.val (cv := a.eval x) (by simp [execOp]) r (ev_rep r hv)
  | pick c x y =>
    refine evF_sat fun v hv => ?_
    have hc := ev_rep r hv
    split
    · generalize hcv : a.eval c = cv at hc
      cases hc
      rw [evR_eq]
      exact Res.sat_of fun v hv => Gives.val (cv := a.eval x) (by simp [execOp, hcv, asBool]) r (ev_rep r hv)
    · generalize hcv : a.eval c = cv at hc
      cases hc
      rw [evR_eq]
      exact Res.sat_of fun v hv => Gives.val (cv := a.eval y) (by simp [execOp, hcv, asBool]) r (ev_rep r hv)
    · trivial
  | alloc T =>
    refine Res.sat_imp (allocA_sound (P := P) hE.g r) ?_
    rintro v s' ⟨cv, Y, h1, h2, h3, h4⟩
    exact Gives.of (cv := cv) (by simp [execOp, h1]) h3 h2 h4
  | box T x =>
    refine evF_sat fun v hv => ?_
    refine Res.sat_imp (boxA_sound (P := P) (T := T) r (ev_rep r hv)) ?_
    rintro v s' ⟨cv, Y, h1, h2, h3, h4⟩
    exact Gives.of (cv := cv) (by simp [execOp, h1]) h3 h2 h4
  | build T ps =>
    simp only [partsF_eq]
    split
    · rename_i l hl
      refine Res.sat_of fun v hv => ?_
      obtain ⟨h1, h2⟩ := parts_rep r hl
      obtain ⟨cv, h3, h4⟩ := buildA_sound (P := P) (X := X) hE.g h1 h2 hv
      refine Gives.val (cv := cv) ?_ r h4
      have he : (ps.map fun (i, x) => (i, a.eval x)) = (ps.toList.map fun (i, x) => (i, a.eval x)).toArray := arr_map _ _
      simp only [execOp, he, Sem.run_bind, h3, Result.andThen_ok, Sem.run_pure]
    · trivial
  | buildSlice T n ps =>
    simp only [partsF_eq]
    split
    · rename_i l hl
      obtain ⟨h1, h2⟩ := parts_rep r hl
      have he : (ps.map fun (i, x) => (i, a.eval x)) = (ps.toList.map fun (i, x) => (i, a.eval x)).toArray := arr_map _ _
      split
      · refine Res.sat_of fun v hv => ?_
        obtain ⟨cv, Y, h3, h4, h5⟩ := buildSliceA_sound (P := P) (X := X) hE.g h1 h2 hv
        refine Gives.same (cv := cv) ?_ h4 r h5
        simp only [execOp, he, Sem.run_bind, h3, Result.andThen_ok, Sem.run_pure]
      · refine Res.sat_imp (buildRowA_sound (P := P) (X := X) hE.g r h1 h2) ?_
        rintro w s' ⟨cv, Y, h3, h4, h5, h6⟩
        exact Gives.of (cv := cv) (by simp only [execOp, he, Sem.run_bind, h3, Result.andThen_ok, Sem.run_pure]) h5 h4 h6
    · trivial
  | load T x =>
    refine evF_sat fun v hv => ?_
    refine Res.sat_imp (loadR_sound (P := P) hE.g r (ev_rep r hv)) ?_
    rintro w s' ⟨rfl, cv, h1, h2⟩
    exact Gives.val (cv := cv) (by simp [execOp, h1]) r h2
  | store T x y =>
    refine evF_sat fun v hv => evF_sat fun u hu => ?_
    refine Res.sat_imp (storeA_sound (P := P) hE.g r (ev_rep r hv) (ev_rep r hu)) ?_
    rintro w s' ⟨rfl, Y, h1, h2, h3⟩
    exact Gives.skip (by simp [execOp, h1]) h2 h3
  | nilCheck x =>
    refine evF_sat fun v hv => ?_
    have hc := ev_rep r hv
    generalize hcv : a.eval x = cv at hc
    split
    · cases hc with | ptr off hb => exact Gives.val (by simp [execOp, hcv]) r (.ptr _ hb)
    · cases hc with | cptr h ha => exact Gives.val (by simp [execOp, hcv]) r (.cptr h ha)
    · cases hc with | eptr j sz off hb => exact Gives.val (by simp [execOp, hcv]) r (.eptr _ _ _ hb)
    · trivial
  | binOp op T x y yT =>
    refine evF_sat fun v hv => evF_sat fun u hu => ?_
    refine Res.sat_imp (binA_sound (P := P) (ox := x) (oy := y) hE.g rfl (ev_rep r hv) (ev_rep r hu)) ?_
    rintro w s' ⟨rfl, cv, h1, h2⟩
    refine Gives.val (cv := cv) ?_ r h2
    show (do pure (.value (← (do eqGuard op T x y (a.eval x) (a.eval y); binOp op T (a.eval x) (a.eval y) : Go.Sem Value))) : Go.Sem Next).run P X.w = _
    rw [Sem.run_bind, h1]
    rfl
  | unOp op T x =>
    refine evF_sat fun v hv => ?_
    refine Res.sat_imp (unA_sound (P := P) (X := X) (ev_rep r hv)) ?_
    rintro w s' ⟨rfl, cv, h1, h2⟩
    exact Gives.val (cv := cv) (by simp [execOp, h1]) r h2
  | convert S D x =>
    refine evF_sat fun v hv => ?_
    refine Res.sat_imp (convA_sound (P := P) (X := X) hE.g r (ev_rep r hv)) ?_
    rintro w s' ⟨cv, Y, h1, h2, h3, h4⟩
    exact Gives.of (cv := cv) (by simp [execOp, h1]) h3 h2 h4
  | makeFunc fn first cap =>
    cases fn with
    | func f =>
      refine evsF_sat fun l hl => evsF_sat fun m hm => ?_
      refine Gives.val (cv := .func (.func f) (first.toList.map a.eval).toArray (cap.toList.map a.eval).toArray) ?_ r (.clo (evs_rep r hl) (evs_rep r hm))
      rw [← arr_map, ← arr_map]
      simp [execOp, Instr.makeFunc]
    | _ => trivial
  | makeMap T res =>
    cases res with
    | none =>
      refine Gives.of (cv := .map (some X.w.heap.size)) (Y := X.new s.nx (.map #[] 0)) ?_ (r.new _ _ ⟨[], 0, push_eq, .nil, .nil, List.Pairwise.nil, by simp⟩) (.map (upd_same ..)) (X.new_fr _ _ r.mu_none r.mu_lt)
      simp [execOp, Instr.makeMap, Cx.new]
    | some x => trivial
  | makeSlice T l c =>
    refine evF_sat fun v hv => evF_sat fun u hu => ?_
    refine Res.sat_imp (makeSliceA_sound (P := P) (X := X) hE.g r (ev_rep r hv) (ev_rep r hu)) ?_
    rintro w s' ⟨cv, Y, h1, h2, h3, h4⟩
    exact Gives.of (cv := cv) (by simp [execOp, h1]) h3 h2 h4
  | slice T x lo hi mx =>
    cases mx with
    | some m => trivial
    | none =>
      refine evF_sat fun v hv => ?_
      split
      · rename_i l h hl hh
        refine Res.sat_imp (sliceA_sound (P := P) (X := X) (clo := lo.map a.eval) (chi := hi.map a.eval) hE.g (ev_rep r hv) (evo_rep r hl) (evo_rep r hh)) ?_
        rintro w s' ⟨rfl, cv, h1, h2⟩
        exact Gives.val (cv := cv) (by simp [execOp, h1]) r h2
      · trivial
  | fieldAddr S x f =>
    refine evF_sat fun v hv => Res.sat_of fun u hu => ?_
    obtain ⟨cv, h1, h2⟩ := fieldAddrA_sound (P := P) (X := X) hE.g (ev_rep r hv) hu
    exact Gives.val (cv := cv) (by simp [execOp, h1]) r h2
  | field S x f =>
    refine evF_sat fun v hv => Res.sat_of fun u hu => ?_
    obtain ⟨cv, h1, h2⟩ := fieldA_sound (P := P) (X := X) hE.g (ev_rep r hv) hu
    exact Gives.val (cv := cv) (by simp [execOp, h1]) r h2
  | indexAddr T x i =>
    refine evF_sat fun v hv => evF_sat fun u hu => ?_
    refine Res.sat_imp (indexAddrA_sound (P := P) (X := X) hE.g (ev_rep r hv) (ev_rep r hu)) ?_
    rintro w s' ⟨rfl, cv, h1, h2⟩
    exact Gives.val (cv := cv) (by simp [execOp, h1]) r h2
  | index T x i =>
    refine evF_sat fun v hv => evF_sat fun u hu => ?_
    refine Res.sat_imp (indexA_sound (P := P) (X := X) hE.g (ev_rep r hv) (ev_rep r hu)) ?_
    rintro w s' ⟨rfl, cv, h1, h2⟩
    exact Gives.val (cv := cv) (by simp [execOp, h1]) r h2
  | lookup T x i ok =>
    refine evF_sat fun v hv => evF_sat fun u hu => ?_
    refine Res.sat_imp (lookupA_sound (P := P) hE.g r (ev_rep r hv) (ev_rep r hu)) ?_
    rintro w s' ⟨rfl, cv, h1, h2⟩
    exact Gives.val (cv := cv) (by simp [execOp, h1]) r h2
  | mapUpdate T m k x =>
    refine evF_sat fun v hv => evF_sat fun u hu => evF_sat fun w hw => ?_
    refine Res.sat_imp (mapSetA_sound (P := P) hE.g r (ev_rep r hv) (ev_rep r hu) (ev_rep r hw)) ?_
    rintro w s' ⟨rfl, Y, h1, h2, h3⟩
    exact Gives.skip (by simp [execOp, h1]) h2 h3
  | insert T m k x =>
    refine evF_sat fun v hv => evF_sat fun u hu => evF_sat fun w hw => ?_
    refine Res.sat_imp (mapSetA_sound (P := P) hE.g r (ev_rep r hv) (ev_rep r hu) (ev_rep r hw)) ?_
    rintro w s' ⟨rfl, Y, h1, h2, h3⟩
    exact Gives.skip (by simp [execOp, h1]) h2 h3
  | extract x i =>
    refine evF_sat fun v hv => ?_
    have hc := ev_rep r hv
    generalize hcv : a.eval x = cv at hc
    split
    · refine Res.sat_of fun u hu => ?_
      cases hc with | tup h =>
      obtain ⟨w, h1, h2⟩ := h.get hu
      exact Gives.val (cv := w) (by simp [execOp, hcv, Instr.extract, h1]) r h2
    · rename_i b p c
      unfold partN
      split
      · cases hc
        · exact Gives.val (by simp [execOp, hcv, Instr.extract]) r (.bool ..)
        · exact Gives.val (by simp [execOp, hcv, Instr.extract]) r (.bool ..)
      · rintro rfl
        cases hc
        exact Gives.val (by simp [execOp, hcv, Instr.extract]) r (.int ..)
      · rintro rfl
        cases hc
        exact Gives.val (by simp [execOp, hcv, Instr.extract]) r (.int ..)
      · trivial
    · trivial
  | range T x =>
    refine evF_sat fun v hv => ?_
    refine Res.sat_imp (rangeA_sound (P := P) hE.g r (ev_rep r hv)) ?_
    rintro w s' ⟨cv, Y, h1, h2, h3, h4⟩
    exact Gives.of (cv := cv) (by simp [execOp, h1]) h3 h2 h4
  | next x b =>
    cases b with
    | false => trivial
    | true =>
      refine evF_sat fun v hv => ?_
      refine Res.sat_imp (nextA_sound (P := P) type r (ev_rep r hv)) ?_
      rintro w s' ⟨cv, Y, h1, h2, h3, h4⟩
      exact Gives.of (cv := cv) (by simp [execOp, h1]) h3 h2 h4
  | call c =>
    obtain ⟨callee, cargs, argTypes⟩ := c
    refine evsF_sat fun l hl => ?_
    have hargs := evs_rep r hl
    have hmap : cargs.map a.eval = (cargs.toList.map a.eval).toArray := arr_map _ _
    cases callee with
    | value f =>
      refine evF_sat fun v hv => ?_
      have hc := ev_rep r hv
      generalize hcv : a.eval f = cv at hc
      split
      · cases hc with | clo h1 h2 =>
        rename_i g first cap fv cv'
        have hrun : (execOp a.eval ⟨dst, .call { callee := .value f, args := cargs, argTypes := argTypes }, type, pos, after, guard⟩).run P X.w = (callFunc g (fv ++ cargs.toList.map a.eval ++ cv').toArray).run P X.w := ?_
        · split
          · exact callS_sound hE hg r ((h1.append hargs).append h2) hrun
          · exact calls_sound hE hg r ((h1.append hargs).append h2) hrun
        simp only [execOp, resolve, hmap, hcv, Deferred.ofValue, Sem.run_bind, Sem.run_pure, Result.andThen_ok, invoke]
        congr 2
        simp
      · trivial
    | invoke x m => trivial
    | builtin b =>
      cases b with
      | len =>
        simp only [opF]
        split
        · rename_i x T hT
          cases hargs' : cargs.toList.map a.eval with
          | nil => rw [hargs'] at hargs; cases hargs
          | cons cx rest =>
            rw [hargs'] at hargs hmap
            cases hargs with | cons hx hrest =>
            cases hrest
            refine Res.sat_imp (lenA_sound (P := P) hE.g r hT hx) ?_
            rintro w s' ⟨rfl, cv, h1, h2⟩
            refine Gives.val (cv := cv) ?_ r h2
            simp only [execOp, resolve, hmap, Sem.run_bind, Sem.run_pure, Result.andThen_ok, invoke, builtin]
            rw [h1]; rfl
        · trivial
      | min =>
        refine Res.sat_imp (minA_sound (P := P) hargs) ?_
        rintro w s' ⟨rfl, cv, h1, h2⟩
        refine Gives.val (cv := cv) ?_ r h2
        simp only [execOp, resolve, hmap, Sem.run_bind, Sem.run_pure, Result.andThen_ok, invoke, builtin]
        rw [h1]; rfl
      | max =>
        refine Res.sat_imp (maxA_sound (P := P) hargs) ?_
        rintro w s' ⟨rfl, cv, h1, h2⟩
        refine Gives.val (cv := cv) ?_ r h2
        simp only [execOp, resolve, hmap, Sem.run_bind, Sem.run_pure, Result.andThen_ok, invoke, builtin]
        rw [h1]; rfl
      | append =>
        simp only [opF]
        split
        · rename_i x y T xT hT hxT
          cases hargs' : cargs.toList.map a.eval with
          | nil => rw [hargs'] at hargs; cases hargs
          | cons cx rest =>
            rw [hargs'] at hargs hmap
            cases hargs with | cons hx hrest =>
            cases hrest with | cons hy hrest =>
            cases hrest
            refine Res.sat_imp (appendA_sound (P := P) hE.g r hT hxT hx hy) ?_
            rintro w s' ⟨cv, Y, h1, h2, h3, h4⟩
            refine Gives.of (cv := cv) ?_ h3 h2 h4
            simp only [execOp, resolve, hmap, Sem.run_bind, Sem.run_pure, Result.andThen_ok, invoke, builtin]
            rw [h1]; rfl
        · trivial
      | _ => trivial
  | _ => trivial
end
end Go.Ab
