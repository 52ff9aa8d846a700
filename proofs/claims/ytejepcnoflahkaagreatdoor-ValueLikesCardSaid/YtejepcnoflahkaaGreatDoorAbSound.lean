/- The symbolic evaluator: the soundness of its operations, first part: types, operands, memory. -/
import Derived.Test.YtejepcnoflahkaaGreatDoorAbCode
import Derived.Laws.Tables
import Derived.Laws.StructEq
import Derived.Laws.Cells
namespace Go.Ab

/-! ### The table of types -/
def vOk1 : Value → AV → Bool
  | .int k n, .int k' n' => decide (k = k') && n == n'
  | .bool b, .bool c => b == c
  | .string s, .str l => s.data.toList == l
  | .pointer none, .nilp => true
  | .map none, .nilm => true
  | .nilFunc, .nilf => true
  | .nilIface, .nili => true
  | .slice none 0 0, .sl .nil 0 _ => true
  | _, _ => false
def vOkL : List Value → List AV → Bool
  | [], [] => true
  | v :: vs, a :: l => vOk1 v a && vOkL vs l
  | _, _ => false
def vOk : Value → AV → Bool
  | .agg cs, .agg l => vOkL cs.toList l
  | .agg _, _ => false
  | v, a => vOk1 v a

theorem vOk1_rep (X : Cx) (p : Bool) {v : Value} {a : AV} (h : vOk1 v a = true) : Rep X p a v := by
  unfold vOk1 at h
  split at h
  · simp at h; obtain ⟨rfl, rfl⟩ := h; exact .int ..
  · simp at h; subst h; exact .bool ..
  · simp at h; subst h; exact .str p _
  · exact .nilp _
  · exact .nilm _
  · exact .nilf _
  · exact .nili _
  · exact .snil _ none trivial (fun _ => rfl)
  · cases h
theorem vOkL_rep (X : Cx) (p : Bool) : ∀ {vs : List Value} {l : List AV}, vOkL vs l = true → RepL X p l vs
  | [], [], _ => .nil
  | v :: vs, a :: l, h => by
    simp only [vOkL, Bool.and_eq_true] at h
    exact .cons (vOk1_rep X p h.1) (vOkL_rep X p h.2)
  | [], _ :: _, h => by simp [vOkL] at h
  | _ :: _, [], h => by simp [vOkL] at h
theorem vOk_rep (X : Cx) (p : Bool) {v : Value} {a : AV} (h : vOk v a = true) : Rep X p a v := by
  unfold vOk at h
  split at h
  · exact .agg (vs := Array.toList _) (vOkL_rep X p h)
  · cases h
  · exact vOk1_rep X p h
theorem vOk_cells (X : Cx) (p : Bool) {v : Value} {a : AV} (h : vOk v a = true) : RepL X p a.cells v.cells.toList := by
  refine (vOk_rep X p h).cells ?_
  rintro rfl
  cases v <;> simp [vOk, vOk1] at h

def dmatch : TypeDesc → TD → Bool
  | .bool, .bool => true
  | .int k, .int k' => decide (k = k')
  | .string, .str => true
  | .pointer e, .ptr e' => e == e'
  | .slice e, .slice e' => e == e'
  | .map k e, .map k' e' => k == k' && e == e'
  | .struct fs, .struct gs => fs.toList.map (fun f => (f.type, f.offset, f.name == "_")) == gs
  | .array n e, .array n' e' => n == n' && e == e'
  | .func .., .func => true
  | .interface _, .iface => true
  | _, _ => false

structure TIOk (P : Program) (t : Nat) (ti : TI) where
  i : TypeInfo
  d : TypeDesc
  zv : Value
  info : P.info? t = some i
  und : P.underlying t = some d
  size : i.size = ti.size
  bytes : i.bytes = ti.bytes
  zero : i.zero = some zv
  zok : vOk zv ti.zero = true
  dm : dmatch d ti.d = true
  eqo : ti.eqok = true → P.eqGuardType P.depth t = false ∧ P.stoodInHeld t = false

def GOk (P : Program) (Γ : Nat → Option TI) : Prop := ∀ t ti, Γ t = some ti → Nonempty (TIOk P t ti)

def tiCheck (P : Program) (t : Nat) (ti : TI) : Bool :=
  match P.info? t, P.underlying t with
  | some i, some d => i.size == ti.size && (i.bytes == ti.bytes && ((match i.zero with | some zv => vOk zv ti.zero | none => false) && (dmatch d ti.d && (!ti.eqok || (!P.eqGuardType P.depth t && !P.stoodInHeld t)))))
  | _, _ => false
def tabCheck (P : Program) : Nat → List (Option TI) → Bool
  | _, [] => true
  | t, none :: l => tabCheck P (t + 1) l
  | t, some ti :: l => tiCheck P t ti && tabCheck P (t + 1) l
theorem tiCheck_ok {P : Program} {t : Nat} {ti : TI} (h : tiCheck P t ti = true) : Nonempty (TIOk P t ti) := by
  unfold tiCheck at h
  split at h
  · rename_i i d hi hd
    simp only [Bool.and_eq_true] at h
    obtain ⟨h1, h2, h3, h4, h5⟩ := h
    cases hz : i.zero with
    | none => simp [hz] at h3
    | some zv =>
      simp only [hz] at h3
      exact ⟨⟨i, d, zv, hi, hd, by simpa using h1, by simpa using h2, hz, h3, h4, fun he => by simpa [he] using h5⟩⟩
  · cases h
theorem tabCheck_ok {P : Program} : ∀ (l : List (Option TI)) (t0 : Nat), tabCheck P t0 l = true → ∀ t ti, l[t]? = some (some ti) → Nonempty (TIOk P (t0 + t) ti)
  | [], _, _, t, ti, ht => by simp at ht
  | none :: l, t0, h, t, ti, ht => by
    cases t with
    | zero => simp at ht
    | succ t =>
      have := tabCheck_ok l (t0 + 1) (by simpa [tabCheck] using h) t ti (by simpa using ht)
      rwa [show t0 + 1 + t = t0 + (t + 1) from by omega] at this
  | some x :: l, t0, h, t, ti, ht => by
    simp only [tabCheck, Bool.and_eq_true] at h
    cases t with
    | zero => simp at ht; subst ht; exact tiCheck_ok h.1
    | succ t =>
      have := tabCheck_ok l (t0 + 1) h.2 t ti (by simpa using ht)
      rwa [show t0 + 1 + t = t0 + (t + 1) from by omega] at this
theorem gok_of {P : Program} (l : List (Option TI)) (h : tabCheck P 0 l = true) : GOk P (fun t => match l[t]? with | some x => x | none => none) := by
  intro t ti ht
  simp only at ht
  split at ht
  · rename_i x hx
    subst ht
    have := tabCheck_ok l 0 h t ti hx
    rwa [Nat.zero_add] at this
  · cases ht

section
variable {P : Program} {t : Nat} {ti : TI}
theorem TIOk.run_und (k : TIOk P t ti) (w : World) : (underlying t).run P w = .ok k.d w := run_underlying k.und w
theorem TIOk.run_info (k : TIOk P t ti) (w : World) : (typeInfo t).run P w = .ok k.i w := by simp [typeInfo, k.info]
theorem TIOk.run_size (k : TIOk P t ti) (w : World) : (sizeOf t).run P w = .ok ti.size w := by simp [sizeOf, k.run_info, k.size]
theorem TIOk.run_zero (k : TIOk P t ti) (w : World) : (zeroValue t).run P w = .ok k.zv w := by simp [zeroValue, k.run_info, k.zero]
theorem TIOk.run_agg (k : TIOk P t ti) (w : World) : (isAgg t).run P w = .ok ti.d.agg w := by
  have h := k.dm
  simp only [isAgg, Sem.run_bind, k.run_und, Result.andThen_ok]
  revert h
  cases k.d <;> cases ti.d <;> simp [dmatch, TD.agg]
theorem dm_slice {d : TypeDesc} {e : Nat} (h : dmatch d (.slice e) = true) : d = .slice e := by cases d <;> simp_all [dmatch]
theorem dm_array {d : TypeDesc} {n e : Nat} (h : dmatch d (.array n e) = true) : d = .array n e := by cases d <;> simp_all [dmatch]
theorem dm_map {d : TypeDesc} {k e : Nat} (h : dmatch d (.map k e) = true) : d = .map k e := by cases d <;> simp_all [dmatch]
theorem dm_str {d : TypeDesc} (h : dmatch d .str = true) : d = .string := by cases d <;> simp_all [dmatch]
theorem dm_bool {d : TypeDesc} (h : dmatch d .bool = true) : d = .bool := by cases d <;> simp_all [dmatch]
theorem dm_int {d : TypeDesc} {k : IntKind} (h : dmatch d (.int k) = true) : d = .int k := by cases d <;> simp_all [dmatch]
theorem dm_ptr {d : TypeDesc} {e : Nat} (h : dmatch d (.ptr e) = true) : d = .pointer e := by cases d <;> simp_all [dmatch]
theorem dm_func {d : TypeDesc} (h : dmatch d .func = true) : ∃ a b c, d = .func a b c := by cases d <;> simp_all [dmatch]
theorem dm_iface {d : TypeDesc} (h : dmatch d .iface = true) : ∃ a, d = .interface a := by cases d <;> simp_all [dmatch]
theorem dm_struct {d : TypeDesc} {gs} (h : dmatch d (.struct gs) = true) : ∃ fs : Array Field, d = .struct fs ∧ fs.toList.map (fun f => (f.type, f.offset, f.name == "_")) = gs := by
  cases d <;> simp_all [dmatch]
end

/-! ### Operands -/
theorem toAV1_rep (X : Cx) (p : Bool) {v : Value} {a : AV} (h : toAV1 v = some a) : Rep X p a v := by
  unfold toAV1 at h
  split at h <;> first | (cases h; done) | (injection h with h; subst h)
  · exact .int ..
  · exact .bool ..
  · exact .str p _
  · exact .nilp _
  · exact .snil _ none trivial (fun _ => rfl)
  · exact .nilm _
  · exact .nilf _
  · exact .nili _
theorem toAVL_rep (X : Cx) (p : Bool) : ∀ {vs : List Value} {l : List AV}, toAVL vs = some l → RepL X p l vs
  | [], l, h => by simp [toAVL] at h; subst h; exact .nil
  | v :: vs, l, h => by
    simp only [toAVL] at h
    split at h
    · rename_i a l' h1 h2
      injection h with h; subst h
      exact .cons (toAV1_rep X p h1) (toAVL_rep X p h2)
    · cases h
theorem toAV_rep (X : Cx) (p : Bool) {v : Value} {a : AV} (h : toAV v = some a) : Rep X p a v := by
  unfold toAV at h
  split at h
  · split at h
    · rename_i l hl
      injection h with h; subst h
      exact .agg (vs := Array.toList _) (toAVL_rep X p hl)
    · cases h
  · exact toAV1_rep X p h

section
variable {s : St} {a : Act} {X : Cx}
theorem ev_rep (r : Rel s a X) {x : Operand} {v : AV} (h : ev s x = some v) : Rep X false v (a.eval x) := by
  cases x with
  | tmp t => simp only [ev, Option.some.injEq] at h; subst h; exact r.tmps t
  | const c => exact toAV_rep X false h
  | global g => cases h
  | func f => simp only [ev, Option.some.injEq] at h; subst h; exact .clo (fv := []) (cv := []) .nil .nil
theorem evs_rep (r : Rel s a X) : ∀ {xs : List Operand} {l : List AV}, evs s xs = some l → RepL X false l (xs.map a.eval)
  | [], l, h => by simp [evs] at h; subst h; exact .nil
  | x :: xs, l, h => by
    simp only [evs] at h
    split at h
    · rename_i v l' h1 h2
      injection h with h; subst h
      exact .cons (ev_rep r h1) (evs_rep r h2)
    · cases h
end

/-! ### What an operation gives -/
def Gives (P : Program) (o : Oper) (a : Act) (X : Cx) (v : AV) (s' : St) : Prop :=
  ∀ (next : Act → World → Prop) (Q : Exit → Act → World → Prop), (∀ cv Y, Rel s' a Y → Rep Y false v cv → Fr X Y → next (a.put o.dst cv) Y.w) → o.wp P a X.w next Q
def Res.sat (r : Res) (G : AV → St → Prop) : Prop :=
  match r with
  | .fail => True
  | .ok v s => G v s
  | @Res.need C _ v s => C → G v s
section
variable {P : Program} {o : Oper} {a : Act} {X : Cx} {s s' : St} {v : AV}
theorem Gives.of {cv : Value} {Y : Cx} (h : (execOp a.eval o).run P X.w = .ok (.value cv) Y.w) (r : Rel s' a Y) (hv : Rep Y false v cv) (f : Fr X Y) : Gives P o a X v s' := by
  intro next Q hn
  unfold Oper.wp
  rw [h]
  exact hn cv Y r hv f
theorem Gives.val {cv : Value} (h : (execOp a.eval o).run P X.w = .ok (.value cv) X.w) (r : Rel s a X) (hv : Rep X false v cv) : Gives P o a X v s :=
  .of h r hv (Fr.refl X)
theorem Gives.same {cv : Value} {Y : Cx} (h : (execOp a.eval o).run P X.w = .ok (.value cv) Y.w) (e : Same X Y) (r : Rel s a X) (hv : Rep Y false v cv) : Gives P o a X v s :=
  .of h (e.rel r) hv e.fr
theorem Gives.skip {Y : Cx} (h : (execOp a.eval o).run P X.w = .ok .skip Y.w) (r : Rel s' a Y) (f : Fr X Y) : Gives P o a X (.tup []) s' := by
  intro next Q hn
  unfold Oper.wp
  rw [h]
  exact hn undef Y r (.tup (vs := []) .nil) f
end

/-! ### Memory -/
theorem add_off (b o j : Nat) : (⟨b, o, none⟩ : Addr).add j = ⟨b, o + j, none⟩ := by
  unfold Addr.add; split <;> simp_all
theorem cellsAt_rep {X : Cx} {p : Bool} {cs : List AV} {vs : List Value} (h : RepL X p cs vs) {agg : Bool} {size off : Nat} {r : AV} (hr : cellsAt agg size cs off = some r) :
    (agg = true ∧ off + size ≤ vs.length ∧ Rep X p r (.agg ((vs.drop off).take size).toArray)) ∨ (agg = false ∧ ∃ v, vs[off]? = some v ∧ Rep X p r v) := by
  unfold cellsAt at hr
  split at hr
  · left
    split at hr
    · rename_i hb
      injection hr with hr; subst hr
      have := Nat.le_of_ble_eq_true hb
      rw [h.length] at this
      exact ⟨rfl, this, .agg ((h.drop off).take size)⟩
    · cases hr
  · right
    obtain ⟨v, h1, h2⟩ := h.get hr
    exact ⟨rfl, v, h1, h2⟩
theorem run_loadVar_of {P : Program} {w : World} {T : Nat} {ti : TI} (k : TIOk P T ti) {X : Cx} {p : Bool} {cs : List AV} {vs : List Value} (h : RepL X p cs vs) {b o off : Nat}
    (hc : ∀ j v, vs[j]? = some v → w.cell? ⟨b, o + j, none⟩ = some v) {r : AV} (hr : cellsAt ti.d.agg ti.size cs off = some r) :
    ∃ rv, (loadVar T ⟨b, o + off, none⟩).run P w = .ok rv w ∧ Rep X p r rv := by
  rcases cellsAt_rep h hr with ⟨e, h1, h2⟩ | ⟨e, v, h1, h2⟩
  · refine ⟨_, ?_, h2⟩
    have hl := run_loadCells_list (P := P) w ⟨b, o + off, none⟩ ((vs.drop off).take ti.size) (fun j v hv => by
      rw [add_off, Nat.add_assoc]
      refine hc _ _ ?_
      rw [List.getElem?_take] at hv
      split at hv
      · rw [List.getElem?_drop] at hv; exact hv
      · cases hv)
    have hlen : ((vs.drop off).take ti.size).length = ti.size := by simp; omega
    rw [hlen] at hl
    simp [loadVar, k.run_agg, e, k.run_size, hl]
  · refine ⟨v, ?_, h2⟩
    simp [loadVar, k.run_agg, e, hc _ _ h1]

theorem loadA_sound {P : Program} {E : Env} (hΓ : GOk P E.Γ) {s : St} {a : Act} {X : Cx} (r : Rel s a X) {T : Nat} {x v : AV} {cx : Value} (hx : Rep X false x cx) (h : loadA E s T x = some v) :
    ∃ rv, (Instr.loadAt T cx).run P X.w = .ok rv X.w ∧ Rep X false v rv := by
  unfold loadA at h
  split at h
  · cases h
  · rename_i ti hti
    obtain ⟨k⟩ := hΓ _ _ hti
    split at h
    · rename_i i off
      split at h
      · rename_i cs hcs
        cases hx with | ptr off hb =>
        obtain ⟨vs, T', hh, hr⟩ := r.blk hcs hb
        obtain ⟨rv, h1, h2⟩ := run_loadVar_of (w := X.w) k hr (b := _) (o := 0) (off := off) (fun j v hv => by rw [Nat.zero_add, cell_eq hh]; simpa using hv) h
        rw [Nat.zero_add] at h1
        exact ⟨rv, by simpa [Instr.loadAt, Instr.sureAddr] using h1, h2⟩
      · rename_i U cs hcs
        cases hx with | ptr off hb =>
        obtain ⟨vs, hh, hr⟩ := r.blk hcs hb
        obtain ⟨rv, h1, h2⟩ := run_loadVar_of (w := X.w) k hr (b := _) (o := 0) (off := off) (fun j v hv => by rw [Nat.zero_add, cell_eq hh]; simpa using hv) h
        rw [Nat.zero_add] at h1
        exact ⟨rv, by simpa [Instr.loadAt, Instr.sureAddr] using h1, h2⟩
      · cases h
    · rename_i cs off
      cases hx with | cptr hr ha =>
      obtain ⟨rv, h1, h2⟩ := run_loadVar_of (w := X.w) k hr (fun j v hv => (ha j v hv).1) h
      exact ⟨rv, by simpa [Instr.loadAt, Instr.sureAddr] using h1, h2.of_pure⟩
    · cases h

theorem Rep.known_cells {X : Cx} {p : Bool} {v : AV} {cv : Value} (h : Rep X p v cv) (hk : known v = true) : RepL X p v.cells cv.cells.toList :=
  h.cells (by rintro rfl; cases hk)

/-- storing cells one by one -/
theorem one_cell {X : Cx} {p : Bool} {v : AV} {cv : Value} (h : Rep X p v cv) (h1 : one v = true) : cv.oneCell' = true := by
  cases h <;> first | rfl | cases h1
theorem ones_cells {X : Cx} {p : Bool} : ∀ {l : List AV} {vs : List Value}, RepL X p l vs → ones l = true → ∀ v ∈ vs, v.oneCell' = true
  | _, _, .nil, _, v, hv => by cases hv
  | _, _, .cons h hs, ho, v, hv => by
    simp only [ones] at ho
    split at ho
    · rename_i h1
      cases hv with
      | head => exact one_cell h h1
      | tail _ hv => exact ones_cells hs ho v hv
    · cases ho
def setV : List Value → Nat → List Value → List Value
  | cs, _, [] => cs
  | cs, off, v :: vs => setV (cs.set off v) (off + 1) vs
theorem setCells_rep {X : Cx} {p : Bool} : ∀ {l : List AV} {ws : List Value} {cs : List AV} {vs : List Value} (off : Nat), RepL X p l ws → RepL X p cs vs → RepL X p (setCells cs off l) (setV vs off ws)
  | [], _, _, _, _, hl, hc => by cases hl; exact hc
  | a :: l, _, _, _, off, hl, hc => by
    cases hl with | cons h hs => exact setCells_rep (off + 1) hs (hc.set h off)
theorem setV_length : ∀ (vs cs : List Value) (off : Nat), (setV cs off vs).length = cs.length
  | [], cs, off => rfl
  | v :: vs, cs, off => by simp only [setV, setV_length vs]; simp
theorem setV_get : ∀ (ws cs : List Value) (off j : Nat), (setV cs off ws)[j]? = if off ≤ j ∧ j < off + ws.length ∧ j < cs.length then ws[j - off]? else cs[j]?
  | [], cs, off, j => by simp only [setV, List.length_nil]; rw [if_neg (by omega)]
  | v :: ws, cs, off, j => by
    simp only [setV]
    rw [setV_get ws (cs.set off v) (off + 1) j]
    simp only [List.length_set, List.length_cons]
    by_cases h1 : j = off
    · subst h1
      rw [if_neg (by omega)]
      by_cases h2 : j < cs.length
      · rw [if_pos (by omega), List.getElem?_set_self h2, Nat.sub_self]; rfl
      · rw [if_neg (by omega), List.getElem?_eq_none (by simp; omega), List.getElem?_eq_none (by omega)]
    · by_cases h2 : off ≤ j ∧ j < off + (ws.length + 1) ∧ j < cs.length
      · rw [if_pos (by omega), if_pos h2]
        rw [show j - off = (j - (off + 1)) + 1 from by omega]; rfl
      · rw [if_neg (by omega), if_neg h2, List.getElem?_set_ne (fun e => h1 e.symm)]
theorem setV_row_ne {ws vs : List Value} {j k sz off : Nat} (h : off + ws.length ≤ sz) (hjk : k ≠ j) : ((setV vs (j * sz + off) ws).drop (k * sz)).take sz = (vs.drop (k * sz)).take sz := by
  apply List.ext_getElem?
  intro i
  rw [List.getElem?_take, List.getElem?_take]
  by_cases hi : i < sz
  · rw [if_pos hi, if_pos hi, List.getElem?_drop, List.getElem?_drop, setV_get, if_neg]
    rintro ⟨h1, h2, h3⟩
    rcases Nat.lt_or_gt_of_ne hjk with hlt | hgt
    · have := Nat.mul_le_mul_right sz (show k + 1 ≤ j from hlt)
      rw [Nat.succ_mul] at this
      omega
    · have := Nat.mul_le_mul_right sz (show j + 1 ≤ k from hgt)
      rw [Nat.succ_mul] at this
      omega
  · rw [if_neg hi, if_neg hi]
theorem setV_row_eq {ws vs : List Value} {j sz off : Nat} (h : off + ws.length ≤ sz) : ((setV vs (j * sz + off) ws).drop (j * sz)).take sz = setV ((vs.drop (j * sz)).take sz) off ws := by
  apply List.ext_getElem?
  intro i
  rw [List.getElem?_take, setV_get]
  by_cases hi : i < sz
  · rw [if_pos hi, List.getElem?_drop, setV_get]
    by_cases hc : off ≤ i ∧ i < off + ws.length ∧ j * sz + i < vs.length
    · rw [if_pos (by omega), if_pos (by simp; omega)]
      congr 1; omega
    · rw [if_neg (by omega), if_neg (by simp; omega), List.getElem?_take, if_pos hi, List.getElem?_drop]
  · rw [if_neg hi, if_neg (by simp; omega), List.getElem?_take, if_neg hi]
theorem putE_cells {x v u : AV} {off : Nat} (h : putE x off v = some u) : u ≠ .any ∨ ones v.cells = false ∨ off ≠ 0 ∨ v.cells = [u] := by
  unfold putE at h
  split at h
  · injection h with h; subst h; exact .inl (by simp)
  · cases h
  · split at h
    · rename_i hv; injection h with h; subst h; exact .inr (.inr (.inr hv))
    · cases h
theorem putE_rep {X : Cx} {p : Bool} {x v u : AV} {off : Nat} {vs ws : List Value} (h : putE x off v = some u) (hx : RepL X p x.cells vs) (hv : RepL X p v.cells ws) (ho : ones v.cells = true) : RepL X p u.cells (setV vs off ws) := by
  unfold putE at h
  split at h
  · injection h with h; subst h
    exact setCells_rep off hv hx
  · cases h
  · rename_i h1 h2
    split at h
    · rename_i y hy
      injection h with h; subst h
      rw [hy] at hv ho
      have hx1 : x.cells = [x] := by cases x <;> first | rfl | exact absurd rfl (h1 _)
      rw [hx1] at hx
      have hy1 : y.cells = [y] := by
        simp only [ones] at ho
        split at ho
        · rename_i h1; cases y <;> first | rfl | cases h1
        · cases ho
      rw [hy1]
      cases hx with | cons hx hs =>
      cases hs
      cases hv with | cons hv hs =>
      cases hs
      exact .cons hv .nil
    · cases h
theorem setRow_eq {w : World} {b : Nat} {old cs : Array Value} {T : TypeId} {fr : Nat × Nat} (h : w.heap[b]? = some (.cells old T fr)) :
    w.setRow b cs = { w with heap := w.heap.setIfInBounds b (.cells cs T fr) } := by
  have hlt := (Array.getElem?_eq_some_iff.1 h).1
  have hv := (Array.getElem?_eq_some_iff.1 h).2
  unfold World.setRow
  congr 1
  apply Array.ext_getElem?
  intro k
  rw [Array.getElem?_modify]
  by_cases hk : b = k
  · subst hk; simp [hlt, hv]
  · rw [if_neg hk, Array.getElem?_setIfInBounds_ne hk]
theorem run_storeCells_at {P : Program} (b : Nat) (T : TypeId) (fr : Nat × Nat) (off : Nat) : ∀ (vs : List Value) (i : Nat) (cur : List Value) (w : World), w.heap[b]? = some (.cells cur.toArray T fr) → (fr.2 ≤ fr.1 ∨ cur.length ≤ fr.1) → off + i + vs.length ≤ cur.length →
    (∀ v ∈ vs, v.oneCell' = true) → (storeCells ⟨b, off, none⟩ vs i).run P w = .ok () { w with heap := w.heap.setIfInBounds b (.cells (setV cur (off + i) vs).toArray T fr) }
  | [], i, cur, w, hg, _, _, _ => by
    simp only [storeCells, setV, Sem.run_pure]
    congr 1
    cases w with
    | mk heap tape drawn os output =>
      congr 1
      apply Array.ext_getElem?
      intro k
      by_cases hk : b = k
      · subst hk
        have hlt := (Array.getElem?_eq_some_iff.1 hg).1
        simp only at hg hlt
        simp only [Array.getElem?_setIfInBounds_self, if_pos hlt, hg]
      · rw [Array.getElem?_setIfInBounds_ne hk]
  | v :: rest, i, cur, w, hg, hfr, hl, h1 => by
    simp only [List.length_cons] at hl
    have hlt : off + i < cur.length := by omega
    have hcell : w.cell? ⟨b, off + i, none⟩ = some cur[off + i] := by rw [cell_eq hg]; simp [hlt]
    have hfro : w.frozen? ⟨b, off + i, none⟩ = false := by
      obtain ⟨lo, hi⟩ := fr
      simp only [World.frozen?, hg, Bool.and_eq_false_iff, decide_eq_false_iff_not]
      simp only at hfr
      omega
    have hst : (store ((⟨b, off, none⟩ : Addr).add i) v).run P w = .ok () { w with heap := w.heap.setIfInBounds b (.cells (cur.set (off + i) v).toArray T fr) } := by
      rw [add_off, run_store P w _ v _ (h1 v (by simp)), hcell]
      simp only [hfro, Bool.false_eq_true, if_false]
      rw [setCell_eq_setRow w b (off + i) cur.toArray T fr v hg, setRow_eq hg]
      simp
    have ih := run_storeCells_at (P := P) b T fr off rest (i + 1) (cur.set (off + i) v) { w with heap := w.heap.setIfInBounds b (.cells (cur.set (off + i) v).toArray T fr) }
      (set_eq (blk_lt hg)) (by rw [List.length_set]; exact hfr) (by simp; omega) (fun x hx => h1 x (by simp [hx]))
    simp only [storeCells, Sem.run_bind, hst, Result.andThen_ok, ih, setV]
    rw [Array.setIfInBounds_setIfInBounds, Nat.add_assoc]
theorem setV_all : ∀ {us vs : List Value}, us.length = vs.length → setV us 0 vs = vs := by
  have gen : ∀ (vs pre us : List Value), us.length = vs.length → setV (pre ++ us) pre.length vs = pre ++ vs := by
    intro vs
    induction vs with
    | nil => intro pre us h; simp at h; subst h; rfl
    | cons v vs ih =>
      intro pre us h
      cases us with
      | nil => simp at h
      | cons u us =>
        have := ih (pre ++ [v]) us (by simpa using h)
        simp only [List.length_append, List.length_cons, List.length_nil, List.append_assoc, List.cons_append, List.nil_append] at this
        show setV ((pre ++ u :: us).set pre.length v) (pre.length + 1) vs = _
        rw [List.set_append_right _ _ (Nat.le_refl _), Nat.sub_self]
        exact this
  intro us vs h
  exact gen vs [] us h
theorem storeA_sound {P : Program} {E : Env} (hΓ : GOk P E.Γ) {s : St} {a : Act} {X : Cx} (r : Rel s a X) {T : Nat} {x v : AV} {cx cv : Value} (hx : Rep X false x cx) (hv : Rep X false v cv) :
    (storeA E s T x v).sat fun u s' => u = .tup [] ∧ ∃ Y, (Instr.storeAt T cx cv).run P X.w = .ok () Y.w ∧ Rel s' a Y ∧ Fr X Y := by
  unfold storeA
  split
  · trivial
  rename_i ti hti
  obtain ⟨k⟩ := hΓ _ _ hti
  split
  · rename_i i off
    split
    · rename_i cs hcs
      split
      · rename_i h1 h2 h3
        rw [forceL_eq]
        refine ⟨rfl, ?_⟩
        cases hx with | ptr off hb =>
        rename_i b
        obtain ⟨vs, T', hh, hr⟩ := r.blk hcs hb
        have hc : RepL X false v.cells cv.cells.toList := by
          refine hv.cells ?_
          rintro rfl
          simp [AV.cells, ones, one] at h1
        have hl : cv.cells.size = ti.size := by
          have := hc.length
          have h2' := Nat.eq_of_beq_eq_true h2
          simpa [h2'] using this.symm
        have hb3 := Nat.le_of_ble_eq_true h3
        rw [hr.length] at hb3
        have hst := run_storeCells_at (P := P) b T' (0, 0) off cv.cells.toList 0 vs X.w hh (.inl (Nat.le_refl _)) (by simp [hl]; omega) (ones_cells hc h1)
        refine ⟨X.set b (.cells (setV vs off cv.cells.toList).toArray T' (0, 0)), ?_, ?_, ?_⟩
        · simp only [Instr.storeAt, Instr.sureAddr, Sem.run_bind, Sem.run_pure, Result.andThen_ok, storeVar, k.run_size, hl, ne_eq, not_true, if_false, Sem.run_ite]
          exact hst
        · refine r.setB hcs hb _ ⟨_, T', set_eq (blk_lt hh), ?_⟩
          exact (setCells_rep off hc hr).mono (X.set_ext b _ (r.ow _ _ _ hcs hb).2)
        · exact X.set_fr b _ ⟨_, (r.ow _ _ _ hcs hb).1⟩ (r.ow _ _ _ hcs hb).2
      · trivial
    · rename_i U cs hcs
      split
      · rename_i h1 h2 h3
        rw [forceL_eq]
        refine ⟨rfl, ?_⟩
        cases hx with | ptr off hb =>
        rename_i b
        obtain ⟨vs, hh, hr⟩ := r.blk hcs hb
        have hc : RepL X false v.cells cv.cells.toList := by
          refine hv.cells ?_
          rintro rfl
          simp [AV.cells, ones, one] at h1
        have hl : cv.cells.size = ti.size := by
          have := hc.length
          have h2' := Nat.eq_of_beq_eq_true h2
          simpa [h2'] using this.symm
        have hb3 := Nat.le_of_ble_eq_true h3
        rw [hr.length] at hb3
        have hst := run_storeCells_at (P := P) b U (0, 0) off cv.cells.toList 0 vs X.w hh (.inl (Nat.le_refl _)) (by simp [hl]; omega) (ones_cells hc h1)
        refine ⟨X.set b (.cells (setV vs off cv.cells.toList).toArray U (0, 0)), ?_, ?_, ?_⟩
        · simp only [Instr.storeAt, Instr.sureAddr, Sem.run_bind, Sem.run_pure, Result.andThen_ok, storeVar, k.run_size, hl, ne_eq, not_true, if_false, Sem.run_ite]
          exact hst
        · refine r.setB hcs hb _ ⟨_, set_eq (blk_lt hh), ?_⟩
          exact (setCells_rep off hc hr).mono (X.set_ext b _ (r.ow _ _ _ hcs hb).2)
        · exact X.set_fr b _ ⟨_, (r.ow _ _ _ hcs hb).1⟩ (r.ow _ _ _ hcs hb).2
      · trivial
    · trivial
  · rename_i i j sz off
    split
    · rename_i T' sz' n f hcs
      split
      · rename_i hw
        simp only [Bool.and_eq_true] at hw
        obtain rfl : off = 0 := Nat.eq_of_beq_eq_true hw.1
        have hsz : ti.size = sz := Nat.eq_of_beq_eq_true hw.2
        split
        · rename_i h1 h2
          rw [force_eq]
          rintro ⟨hj, rfl⟩
          refine ⟨rfl, ?_⟩
          cases hx with | eptr _ _ _ hb =>
          rename_i b
          obtain ⟨vs, fr, hh, hfr, hz, hn, hbs, hr⟩ := r.blk hcs hb
          have hc : RepL X false v.cells cv.cells.toList := by
            refine hv.cells ?_
            rintro rfl
            simp [AV.cells, ones, one] at h1
          have hl : cv.cells.size = ti.size := by
            have := hc.length
            have h2' := Nat.eq_of_beq_eq_true h2
            simpa [h2'] using this.symm
          have hjn : (j + 1) * sz' ≤ n * sz' := Nat.mul_le_mul_right _ hj
          rw [Nat.succ_mul] at hjn
          have hlw : 0 + cv.cells.toList.length ≤ sz' := by simp [hl]; omega
          have hst := run_storeCells_at (P := P) b T' fr (j * sz' + 0) cv.cells.toList 0 vs X.w hh hfr (by simp [hl]; omega) (ones_cells hc h1)
          refine ⟨X.set b (.cells (setV vs (j * sz' + 0) cv.cells.toList).toArray T' fr), ?_, ?_, ?_⟩
          · simp only [Instr.storeAt, Instr.sureAddr, Sem.run_bind, Sem.run_pure, Result.andThen_ok, storeVar, k.run_size, hl, ne_eq, not_true, if_false, Sem.run_ite]
            exact hst
          · refine r.setB hcs hb _ ⟨_, fr, set_eq (blk_lt hh), by rw [setV_length]; exact hfr, hz, by rw [setV_length]; exact hn, by rw [setV_length]; exact hbs, fun k hk => ?_⟩
            have hE := X.set_ext b (.cells (setV vs (j * sz' + 0) cv.cells.toList).toArray T' fr) (r.ow _ _ _ hcs hb).2
            by_cases hkj : k = j
            · subst hkj
              rw [upd_same, setV_row_eq hlw]
              have e : setV ((vs.drop (k * sz')).take sz') 0 cv.cells.toList = cv.cells.toList := setV_all (by rw [List.length_take, List.length_drop, Nat.min_eq_left (by omega)]; simp [hl, hsz])
              rw [e]
              exact hc.mono hE
            · rw [upd_ne _ _ hkj, setV_row_ne hlw hkj]
              exact (hr k hk).mono hE
          · exact X.set_fr b _ ⟨_, (r.ow _ _ _ hcs hb).1⟩ (r.ow _ _ _ hcs hb).2
        · trivial
      · split
        · rename_i h1 h2 h3
          split
          · rename_i u hu
            rw [force_eq]
            rintro ⟨hj, rfl⟩
            refine ⟨rfl, ?_⟩
            cases hx with | eptr _ _ _ hb =>
            rename_i b
            obtain ⟨vs, fr, hh, hfr, hz, hn, hbs, hr⟩ := r.blk hcs hb
            have hc : RepL X false v.cells cv.cells.toList := by
              refine hv.cells ?_
              rintro rfl
              simp [AV.cells, ones, one] at h1
            have hl : cv.cells.size = ti.size := by
              have := hc.length
              have h2' := Nat.eq_of_beq_eq_true h2
              simpa [h2'] using this.symm
            have hb3 := Nat.le_of_ble_eq_true h3
            have hjr := hr j hj
            have hjn : (j + 1) * sz' ≤ n * sz' := Nat.mul_le_mul_right _ hj
            rw [Nat.succ_mul] at hjn
            have hlen := hjr.length
            rw [List.length_take, List.length_drop, Nat.min_eq_left (by omega)] at hlen
            rw [hlen] at hb3
            have hlw : off + cv.cells.toList.length ≤ sz' := by simp [hl]; omega
            have hst := run_storeCells_at (P := P) b T' fr (j * sz' + off) cv.cells.toList 0 vs X.w hh hfr (by simp [hl]; omega) (ones_cells hc h1)
            refine ⟨X.set b (.cells (setV vs (j * sz' + off) cv.cells.toList).toArray T' fr), ?_, ?_, ?_⟩
            · simp only [Instr.storeAt, Instr.sureAddr, Sem.run_bind, Sem.run_pure, Result.andThen_ok, storeVar, k.run_size, hl, ne_eq, not_true, if_false, Sem.run_ite]
              exact hst
            · refine r.setB hcs hb _ ⟨_, fr, set_eq (blk_lt hh), by rw [setV_length]; exact hfr, hz, by rw [setV_length]; exact hn, by rw [setV_length]; exact hbs, fun k hk => ?_⟩
              have hE := X.set_ext b (.cells (setV vs (j * sz' + off) cv.cells.toList).toArray T' fr) (r.ow _ _ _ hcs hb).2
              by_cases hkj : k = j
              · subst hkj
                rw [upd_same, setV_row_eq hlw]
                exact (putE_rep hu hjr hc h1).mono hE
              · rw [upd_ne _ _ hkj, setV_row_ne hlw hkj]
                exact (hr k hk).mono hE
            · exact X.set_fr b _ ⟨_, (r.ow _ _ _ hcs hb).1⟩ (r.ow _ _ _ hcs hb).2
          · trivial
        · trivial
    · trivial
  · trivial

theorem loadR_sound {P : Program} {E : Env} (hΓ : GOk P E.Γ) {s : St} {a : Act} {X : Cx} (r : Rel s a X) {T : Nat} {x : AV} {cx : Value} (hx : Rep X false x cx) :
    (loadR E s T x).sat fun v s' => s' = s ∧ ∃ rv, (Instr.loadAt T cx).run P X.w = .ok rv X.w ∧ Rep X false v rv := by
  unfold loadR
  split
  · rename_i i j sz off
    split
    · trivial
    rename_i ti hti
    obtain ⟨k⟩ := hΓ _ _ hti
    split
    · rename_i T' sz' n f hcs
      split
      · rename_i v hv
        rintro ⟨hj, rfl⟩
        refine ⟨rfl, ?_⟩
        cases hx with | eptr _ _ _ hb =>
        rename_i b
        obtain ⟨vs, fr, hh, hfr, hz, hn, hbs, hr⟩ := r.blk hcs hb
        obtain ⟨rv, h1, h2⟩ := run_loadVar_of (w := X.w) k (hr j hj) (b := b) (o := j * sz') (off := off) (fun q v hv => by
          rw [cell_eq hh]
          rw [List.getElem?_take] at hv
          split at hv
          · rw [List.getElem?_drop] at hv; simpa using hv
          · cases hv) hv
        exact ⟨rv, by simpa [Instr.loadAt, Instr.sureAddr] using h1, h2⟩
      · trivial
    · trivial
  · cases h : loadA E s T x with
    | none => trivial
    | some v => exact ⟨rfl, loadA_sound hΓ r hx h⟩

theorem newB_rel {s : St} {a : Act} {X : Cx} (r : Rel s a X) {cs : List AV} {vs : List Value} (h : RepL X false cs vs) (T : TypeId) :
    Rel (s.new (.cells cs)) a (X.new s.nx (.cells vs.toArray T (0, 0))) ∧ Rep (X.new s.nx (.cells vs.toArray T (0, 0))) false (.ptr s.nx 0) (.pointer (some ⟨X.w.heap.size, 0, none⟩)) :=
  ⟨r.new _ _ ⟨vs, T, push_eq, h.mono (X.new_ext _ _ r.mu_none r.mu_lt)⟩, .ptr 0 (upd_same ..)⟩

theorem allocA_sound {P : Program} {E : Env} (hΓ : GOk P E.Γ) {s : St} {a : Act} {X : Cx} (r : Rel s a X) {T : Nat} :
    (allocA E s T).sat fun v s' => ∃ cv Y, (Instr.alloc T true (.tuple #[])).run P X.w = .ok cv Y.w ∧ Rep Y false v cv ∧ Rel s' a Y ∧ Fr X Y := by
  unfold allocA
  split
  · trivial
  rename_i ti hti
  obtain ⟨k⟩ := hΓ _ _ hti
  rw [forceL_eq]
  obtain ⟨h1, h2⟩ := newB_rel r (vOk_cells X false k.zok) T
  have hrun : (Instr.alloc T true (.tuple #[])).run P X.w = .ok (.pointer (some ⟨X.w.heap.size, 0, none⟩)) (X.new s.nx (.cells k.zv.cells.toList.toArray T (0, 0))).w := by
    simp only [Instr.alloc, Sem.run_bind, k.run_zero, Result.andThen_ok, newVar, newRow, run_newObj, Sem.run_pure, Cx.new, Array.toArray_toList]
  split
  rotate_left
  · exact ⟨_, _, hrun, h2, r.new _ _ ⟨_, push_eq, (vOk_cells X false k.zok).mono (X.new_ext _ _ r.mu_none r.mu_lt)⟩, X.new_fr _ _ r.mu_none r.mu_lt⟩
  refine ⟨_, _, ?_, h2, h1, X.new_fr _ _ r.mu_none r.mu_lt⟩
  simp only [Instr.alloc, Sem.run_bind, k.run_zero, Result.andThen_ok, newVar, newRow, run_newObj, Sem.run_pure, Cx.new, Array.toArray_toList]
theorem boxA_sound {P : Program} {s : St} {a : Act} {X : Cx} (r : Rel s a X) {T : Nat} {v : AV} {cv : Value} (hv : Rep X false v cv) :
    (boxA s v).sat fun v' s' => ∃ cv' Y, (Instr.box T cv).run P X.w = .ok cv' Y.w ∧ Rep Y false v' cv' ∧ Rel s' a Y ∧ Fr X Y := by
  have main : ∀ l, RepL X false l cv.cells.toList → ∃ cv' Y, (Instr.box T cv).run P X.w = .ok cv' Y.w ∧ Rep Y false (.ptr s.nx 0) cv' ∧ Rel (s.new (.cells l)) a Y ∧ Fr X Y := by
    intro l hl
    obtain ⟨h1, h2⟩ := newB_rel r hl T
    refine ⟨_, _, ?_, h2, h1, X.new_fr _ _ r.mu_none r.mu_lt⟩
    simp only [Instr.box, Sem.run_bind, Result.andThen_ok, newVar, newRow, run_newObj, Sem.run_pure, Cx.new, Array.toArray_toList]
  unfold boxA
  split
  · trivial
  · exact main _ (hv.cells (by rintro ⟨⟩))
  · rename_i h1 h2
    refine main _ ?_
    have := hv.cells (fun e => h1 e)
    cases v <;> first | exact this | exact absurd rfl (h2 _)

/-! ### Building -/
theorem fill_sound {X : Cx} {p : Bool} {place : Nat → Option (Nat × Nat)} : ∀ {ps : List (Nat × AV)} {cps : List (Nat × Value)} {cells : List AV} {vs : List Value} {r : List AV},
    RepL X p (ps.map (·.2)) (cps.map (·.2)) → ps.map (·.1) = cps.map (·.1) → RepL X p cells vs → fillA place cells ps = some r → ∃ rv, Instr.fill place vs.toArray cps = some rv ∧ RepL X p r rv.toList
  | [], cps, cells, vs, r, hp, he, hc, h => by
    cases cps with
    | nil => simp only [fillA, Option.some.injEq] at h; subst h; exact ⟨vs.toArray, rfl, hc⟩
    | cons => simp at he
  | (i, v) :: ps, [], cells, vs, r, hp, he, hc, h => by simp at he
  | (i, v) :: ps, (j, cv) :: cps, cells, vs, r, hp, he, hc, h => by
    simp only [List.map_cons, List.cons.injEq] at he
    obtain ⟨rfl, he⟩ := he
    simp only [List.map_cons] at hp
    cases hp with | cons hv hp =>
    simp only [fillA] at h
    split at h
    · cases h
    · rename_i off size hpl
      split at h
      · rename_i h1 h2 h3
        have hcv := hv.known_cells h1
        have e2 := Nat.eq_of_beq_eq_true h2
        have e3 := Nat.le_of_ble_eq_true h3
        have hl := hcv.length
        rw [hc.length] at e3
        obtain ⟨rv, k1, k2⟩ := fill_sound hp he (setCells_rep off hcv hc) h
        refine ⟨rv, ?_, k2⟩
        simp only [Instr.fill, hpl]
        have hsz : cv.cells.size = size := by simp at hl; omega
        rw [if_neg (by simp [hsz]; simp at hl; omega)]
        rw [← k1]
        congr 1
        have aux : ∀ (ws : List Value) (n : Nat) (l : List Value), List.foldl (fun (cs : Array Value) x => cs.setIfInBounds (off + x.2) x.1) l.toArray (ws.zipIdx n) = (setV l (off + n) ws).toArray := by
          intro ws
          induction ws with
          | nil => intro n l; simp [setV]
          | cons w ws ih =>
            intro n l
            have := ih (n + 1) (l.set (off + n) w)
            simp only [List.zipIdx_cons, setV, List.foldl_cons] at this ⊢
            simpa [Nat.add_assoc] using this
        have := aux cv.cells.toList 0 vs
        rw [← Array.foldl_toList, Array.toList_zipIdx]
        simpa using this
      · cases h

theorem parts_rep {s : St} {a : Act} {X : Cx} (r : Rel s a X) : ∀ {ps : List (Nat × Operand)} {l : List (Nat × AV)}, parts s ps = some l →
    RepL X false (l.map (·.2)) ((ps.map fun (i, x) => (i, a.eval x)).map (·.2)) ∧ l.map (·.1) = (ps.map fun (i, x) => (i, a.eval x)).map (·.1)
  | [], l, h => by simp [parts] at h; subst h; exact ⟨.nil, rfl⟩
  | (i, x) :: ps, l, h => by
    simp only [parts] at h
    split at h
    · rename_i v l' h1 h2
      injection h with h; subst h
      obtain ⟨k1, k2⟩ := parts_rep r h2
      exact ⟨.cons (ev_rep r h1) k1, by simp only [List.map_cons, k2]⟩
    · cases h
end Go.Ab
