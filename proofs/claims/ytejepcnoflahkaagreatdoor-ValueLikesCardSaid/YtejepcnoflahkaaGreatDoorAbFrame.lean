/- The symbolic evaluator: a contract told of a small memory, within a greater one. -/
import Derived.Test.YtejepcnoflahkaaGreatDoorAbTab0
namespace Go.Ab
set_option linter.unusedVariables false

mutual
/-- Blocks and owners by other names. -/
def ren (ρ θ : Nat → Nat) : AV → AV
  | .agg cs => .agg (renL ρ θ cs)
  | .tup cs => .tup (renL ρ θ cs)
  | .sl tag n f => match tag with
    | .tok t => .sl (.tok (θ t)) n f
    | tag => .sl tag n f
  | .ptr i o => .ptr (ρ i) o
  | .hs i lo n sz cap => .hs (ρ i) lo n sz cap
  | .eptr i j sz off => .eptr (ρ i) j sz off
  | .map i => .map (ρ i)
  | .clo f a b => .clo f (renL ρ θ a) (renL ρ θ b)
  | .ifc t v => .ifc t (ren ρ θ v)
  | v => v
def renL (ρ θ : Nat → Nat) : List AV → List AV
  | [] => []
  | a :: as => ren ρ θ a :: renL ρ θ as
end

/-- Y sees, by the names that ρ and θ give, what X sees. -/
structure Sees (ρ θ : Nat → Nat) (X Y : Cx) : Prop where
  at_ : Ext X Y
  mu : ∀ i b, X.μ i = some b → Y.μ (ρ i) = some b
  bs : ∀ b, b < X.w.heap.size → Y.bs b = X.bs b
  lt : X.w.heap.size ≤ Y.w.heap.size
  tau : ∀ t c, X.κ t = some c → Y.κ (θ t) = some c ∧ Y.τ (θ t) = X.τ t

theorem Sees.tagOk {ρ θ : Nat → Nat} {X Y : Cx} (h : Sees ρ θ X Y) {p t b o cap sz len} (k : TagOk X p (.tok t) b o cap sz len) : TagOk Y p (.tok (θ t)) b o cap sz len := by
  obtain ⟨hp, c, U, h1, h2, h3⟩ := k
  obtain ⟨k1, k2⟩ := h.tau t _ h1
  exact ⟨hp, c, U, k1, h2, by rw [k2]; exact h3⟩
theorem Sees.tagNil {ρ θ : Nat → Nat} {X Y : Cx} (h : Sees ρ θ X Y) {p t} (k : TagNil X p (.tok t)) : TagNil Y p (.tok (θ t)) := by
  obtain ⟨hp, c, U, h1, h3⟩ := k
  obtain ⟨k1, k2⟩ := h.tau t _ h1
  exact ⟨hp, c, U, k1, by rw [k2]; exact h3⟩
mutual
theorem Sees.rep {ρ θ : Nat → Nat} {X Y : Cx} (e : Sees ρ θ X Y) : ∀ {p a v}, Rep X p a v → Rep Y p (ren ρ θ a) v
  | _, _, _, .any .. => .any ..
  | _, _, _, .int .. => .int ..
  | _, _, _, .bool .. => .bool ..
  | _, _, _, .str .. => .str ..
  | _, _, _, .agg h => .agg (Sees.repL e h)
  | _, _, _, .tup h => .tup (Sees.repL e h)
  | _, _, _, .nilp .. => .nilp ..
  | _, _, _, .nilm .. => .nilm ..
  | _, _, _, .nilf .. => .nilf ..
  | _, _, _, .nili .. => .nili ..
  | _, .sl tag _ _, _, .snil f A h hn => by
    cases tag with
    | no => exact .snil f A trivial (fun h => by cases h)
    | nil => exact .snil f A trivial hn
    | tight => exact .snil f A trivial (fun h => by cases h)
    | tok t => exact .snil f A (e.tagNil h) (fun h => by cases h)
  | _, .sl tag _ _, _, .sl b o cap sz g hz hc hr hg ha ht => by
    cases tag with
    | no => exact .sl b o cap sz g hz hc (fun i hi => RepL.pmono e.at_ rfl (hr i hi)) hg (fun i hi j v hv => e.at_ _ _ _ (ha i hi j v hv)) trivial
    | nil => exact ht.elim
    | tight => exact .sl b o cap sz g hz hc (fun i hi => RepL.pmono e.at_ rfl (hr i hi)) hg (fun i hi j v hv => e.at_ _ _ _ (ha i hi j v hv)) ht
    | tok t => exact .sl b o cap sz g hz hc (fun i hi => RepL.pmono e.at_ rfl (hr i hi)) hg (fun i hi j v hv => e.at_ _ _ _ (ha i hi j v hv)) (e.tagOk ht)
  | _, _, _, .ptr off h => .ptr off (e.mu _ _ h)
  | _, _, _, .hs lo n sz cap capc o h hl hz hn hc ho hbs => .hs lo n sz cap capc o (e.mu _ _ h) (Nat.lt_of_lt_of_le hl e.lt) hz hn hc ho (by rw [e.bs _ hl]; exact hbs)
  | _, _, _, .hs0 i lo sz cap hz hc => .hs0 _ lo sz cap hz hc
  | _, _, _, .eptr j sz off h => .eptr j sz off (e.mu _ _ h)
  | _, _, _, .cptr h ha => .cptr (RepL.pmono e.at_ rfl h) fun j v hv => e.at_ _ _ _ (ha j v hv)
  | _, _, _, .map h => .map (e.mu _ _ h)
  | _, _, _, .clo h1 h2 => .clo (Sees.repL e h1) (Sees.repL e h2)
  | _, _, _, .ifc h => .ifc (Sees.rep e h)
  | _, _, _, .nxtT .. => .nxtT ..
  | _, _, _, .nxtF .. => .nxtF ..
theorem Sees.repL {ρ θ : Nat → Nat} {X Y : Cx} (e : Sees ρ θ X Y) : ∀ {p as vs}, RepL X p as vs → RepL Y p (renL ρ θ as) vs
  | _, _, _, .nil => .nil
  | _, _, _, .cons h hs => .cons (Sees.rep e h) (Sees.repL e hs)
end

/-! ### Names: a list of some, new ones behind -/
def pos : List Nat → Nat → Option Nat
  | [], _ => none
  | a :: l, j => match Nat.beq a j with
    | true => some 0
    | false => match pos l j with
      | some i => some (i + 1)
      | none => none
def nam (l : List Nat) (d i : Nat) : Nat :=
  match l[i]? with
  | some j => j
  | none => d + (i - l.length)
def inv (l : List Nat) (d j : Nat) : Option Nat :=
  match pos l j with
  | some i => some i
  | none => match Nat.ble d j with
    | true => some (l.length + (j - d))
    | false => none
theorem pos_get : ∀ {l : List Nat} {j i : Nat}, pos l j = some i → l[i]? = some j
  | [], j, i, h => by cases h
  | a :: l, j, i, h => by
    simp only [pos] at h
    split at h
    · rename_i hb
      injection h with h; subst h
      rw [Nat.eq_of_beq_eq_true hb]; rfl
    · split at h
      · rename_i k hk
        injection h with h; subst h
        simpa using pos_get hk
      · cases h
theorem pos_of : ∀ {l : List Nat} {j i : Nat}, l.Nodup → l[i]? = some j → pos l j = some i
  | [], j, i, _, h => by simp at h
  | a :: l, j, i, hn, h => by
    rw [List.nodup_cons] at hn
    cases i with
    | zero =>
      simp only [List.getElem?_cons_zero, Option.some.injEq] at h
      subst h
      simp [pos]
    | succ i =>
      simp only [List.getElem?_cons_succ] at h
      have hne : a ≠ j := fun e => hn.1 (e ▸ List.mem_of_getElem? h)
      simp only [pos, beq_false hne, pos_of hn.2 h]
theorem pos_none {l : List Nat} {j : Nat} (h : ∀ i : Nat, l[i]? ≠ some j) : pos l j = none := by
  cases hp : pos l j with
  | none => rfl
  | some i => exact absurd (pos_get hp) (h i)
theorem inv_nam {l : List Nat} {d i : Nat} (hn : l.Nodup) (hl : ∀ a ∈ l, a < d) : inv l d (nam l d i) = some i := by
  unfold nam
  cases h : l[i]? with
  | some j => simp only [inv, pos_of hn h]
  | none =>
    have hi : l.length ≤ i := List.getElem?_eq_none_iff.1 h
    have : pos l (d + (i - l.length)) = none := pos_none fun k hk => by
      have := hl _ (List.mem_of_getElem? hk)
      omega
    simp only [inv, this]
    have hb : Nat.ble d (d + (i - l.length)) = true := by rw [Nat.ble_eq]; omega
    rw [hb]
    simp only [Option.some.injEq]
    omega
theorem nam_inv {l : List Nat} {d j i : Nat} (h : inv l d j = some i) : nam l d i = j := by
  unfold inv at h
  split at h
  · rename_i k hk
    injection h with h; subst h
    unfold nam
    rw [pos_get hk]
  · split at h
    · rename_i hb
      injection h with h; subst h
      rw [Nat.ble_eq] at hb
      unfold nam
      rw [List.getElem?_eq_none (by omega)]
      simp only
      omega
    · cases h

/-! ### The other way: what is seen by the names is seen without -/
structure Seen (ρ θ : Nat → Nat) (nx nk : Nat) (X Y : Cx) : Prop where
  at_ : Ext X Y
  mu : ∀ i b, i < nx → X.μ (ρ i) = some b → Y.μ i = some b
  bs : ∀ b, Y.bs b = X.bs b
  lt : X.w.heap.size ≤ Y.w.heap.size
  tau : ∀ t c, t < nk → X.κ (θ t) = some c → Y.κ t = some c ∧ Y.τ t = X.τ (θ t)
mutual
theorem Seen.rep {ρ θ : Nat → Nat} {nx nk : Nat} {X Y : Cx} (e : Seen ρ θ nx nk X Y) : ∀ {p : Bool} {v : Value} (a : AV), under nx nk a = true → Rep X p (ren ρ θ a) v → Rep Y p a v
  | _, _, .any, _, _ => .any ..
  | _, _, .int .., _, h => by cases h; exact .int ..
  | _, _, .bool _, _, h => by cases h; exact .bool ..
  | _, _, .str _, _, h => by cases h; exact .str ..
  | _, _, .agg cs, hb, h => by cases h with | agg h => exact .agg (Seen.repL e cs (by simpa [under] using hb) h)
  | _, _, .tup cs, hb, h => by cases h with | tup h => exact .tup (Seen.repL e cs (by simpa [under] using hb) h)
  | _, _, .nilp, _, h => by cases h; exact .nilp ..
  | _, _, .nilm, _, h => by cases h; exact .nilm ..
  | _, _, .nilf, _, h => by cases h; exact .nilf ..
  | _, _, .nili, _, h => by cases h; exact .nili ..
  | _, _, .sl tag n f, hb, h => by
    cases tag with
    | no =>
      have h' : Rep X _ (.sl .no n f) _ := h
      cases h' with
      | snil f A _ hn => exact .snil f A trivial hn
      | sl b o cap sz g hz hc hr hg ha ht => exact .sl b o cap sz g hz hc (fun i hi => RepL.pmono e.at_ rfl (hr i hi)) hg (fun i hi j v hv => e.at_ _ _ _ (ha i hi j v hv)) trivial
    | nil =>
      have h' : Rep X _ (.sl .nil n f) _ := h
      cases h' with
      | snil f A _ hn => exact .snil f A trivial hn
      | sl b o cap sz g hz hc hr hg ha ht => exact ht.elim
    | tight =>
      have h' : Rep X _ (.sl .tight n f) _ := h
      cases h' with
      | snil f A _ hn => exact .snil f A trivial hn
      | sl b o cap sz g hz hc hr hg ha ht => exact .sl b o cap sz g hz hc (fun i hi => RepL.pmono e.at_ rfl (hr i hi)) hg (fun i hi j v hv => e.at_ _ _ _ (ha i hi j v hv)) ht
    | tok t =>
      have h' : Rep X _ (.sl (.tok (θ t)) n f) _ := h
      have ht : t < nk := by simpa [under, Nat.blt_eq] using hb
      cases h' with
      | snil f A hT _ =>
        obtain ⟨hp, c, U, h1, h3⟩ := hT
        obtain ⟨k1, k2⟩ := e.tau t _ ht h1
        exact .snil f A ⟨hp, c, U, k1, by rw [k2]; exact h3⟩ (fun h => by cases h)
      | sl b o cap sz g hz hc hr hg ha hT =>
        obtain ⟨hp, c, U, h1, h2, h3⟩ := hT
        obtain ⟨k1, k2⟩ := e.tau t _ ht h1
        exact .sl b o cap sz g hz hc (fun i hi => RepL.pmono e.at_ rfl (hr i hi)) hg (fun i hi j v hv => e.at_ _ _ _ (ha i hi j v hv)) ⟨hp, c, U, k1, h2, by rw [k2]; exact h3⟩
  | _, _, .ptr i o, hb, h => by
    have h' : Rep X _ (.ptr (ρ i) o) _ := h
    cases h' with | ptr _ hm => exact .ptr _ (e.mu _ _ (by simpa [under, Nat.blt_eq] using hb) hm)
  | _, _, .hs i lo n sz cap, hb, h => by
    have h' : Rep X _ (.hs (ρ i) lo n sz cap) _ := h
    cases h' with
    | hs0 _ _ _ _ hz hc => exact .hs0 _ _ _ _ hz hc
    | hs _ _ _ _ capc o hm hl hz hn hc ho hbs => exact .hs _ _ _ _ capc o (e.mu _ _ (by simpa [under, Nat.blt_eq] using hb) hm) (Nat.lt_of_lt_of_le hl e.lt) hz hn hc ho (by rw [e.bs]; exact hbs)
  | _, _, .eptr i j sz off, hb, h => by
    have h' : Rep X _ (.eptr (ρ i) j sz off) _ := h
    cases h' with | eptr _ _ _ hm => exact .eptr _ _ _ (e.mu _ _ (by simpa [under, Nat.blt_eq] using hb) hm)
  | _, _, .cptr cs o, _, h => by
    have h' : Rep X _ (.cptr cs o) _ := h
    cases h' with | cptr hm ha => exact .cptr (RepL.pmono e.at_ rfl hm) fun j v hv => e.at_ _ _ _ (ha j v hv)
  | _, _, .map i, hb, h => by
    have h' : Rep X _ (.map (ρ i)) _ := h
    cases h' with | map hm => exact .map (e.mu _ _ (by simpa [under, Nat.blt_eq] using hb) hm)
  | _, _, .clo f a b, hb, h => by
    simp only [under] at hb
    split at hb
    · rename_i ha
      cases h with | clo h1 h2 => exact .clo (Seen.repL e a ha h1) (Seen.repL e b hb h2)
    · cases hb
  | _, _, .ifc t v, hb, h => by cases h with | ifc h => exact .ifc (Seen.rep e v (by simpa [under] using hb) h)
  | _, _, .nxt b i c, _, h => by
    have h' : Rep X _ (.nxt b i c) _ := h
    cases h' with
    | nxtT => exact .nxtT ..
    | nxtF => exact .nxtF ..
theorem Seen.repL {ρ θ : Nat → Nat} {nx nk : Nat} {X Y : Cx} (e : Seen ρ θ nx nk X Y) : ∀ {p : Bool} {vs : List Value} (as : List AV), underL nx nk as = true → RepL X p (renL ρ θ as) vs → RepL Y p as vs
  | _, _, [], _, h => by cases h; exact .nil
  | _, _, a :: as, hb, h => by
    simp only [underL] at hb
    split at hb
    · rename_i ha
      cases h with | cons h hs => exact .cons (Seen.rep e a ha h) (Seen.repL e as hb hs)
    · cases hb
end

def renB (ρ θ : Nat → Nat) : Blk → Blk
  | .cells cs => .cells (renL ρ θ cs)
  | .tcells T cs => .tcells T (renL ρ θ cs)
  | .map es => .map (es.map fun p => (ren ρ θ p.1, ren ρ θ p.2))
  | .arr T sz n f => .arr T sz n fun j => ren ρ θ (f j)
  | .siter s p => .siter s p
def underB (nx nk : Nat) : Blk → Prop
  | .cells cs => underL nx nk cs = true
  | .tcells _ cs => underL nx nk cs = true
  | .map es => underL nx nk (es.map (·.1)) = true ∧ underL nx nk (es.map (·.2)) = true
  | .arr _ _ n f => ∀ j, j < n → under nx nk (f j) = true
  | .siter .. => True
theorem renL_map (ρ θ : Nat → Nat) : ∀ l : List AV, renL ρ θ l = l.map (ren ρ θ)
  | [] => rfl
  | a :: l => by simp only [renL, List.map_cons, renL_map ρ θ l]
theorem ren_cells (ρ θ : Nat → Nat) (x : AV) : (ren ρ θ x).cells = renL ρ θ x.cells := by
  cases x <;> first | rfl | skip
  rename_i tag n f
  cases tag <;> rfl
theorem under_cells {nx nk : Nat} {x : AV} (h : under nx nk x = true) : underL nx nk x.cells = true := by
  have one : underL nx nk [x] = true := by simp only [underL, h]
  cases x <;> first | exact one | skip
  rename_i cs
  show underL nx nk cs = true
  simpa only [under] using h
theorem Sees.blk {ρ θ : Nat → Nat} {X Y : Cx} (e : Sees ρ θ X Y) {b : Nat} {blk : Blk} (hw : Y.w.heap[b]? = X.w.heap[b]?) (hs : Y.bs b = X.bs b) (h : BlkRel X b blk) : BlkRel Y b (renB ρ θ blk) := by
  cases blk with
  | cells cs => obtain ⟨vs, T, h1, h2⟩ := h; exact ⟨vs, T, hw.trans h1, e.repL h2⟩
  | tcells T cs => obtain ⟨vs, h1, h2⟩ := h; exact ⟨vs, hw.trans h1, e.repL h2⟩
  | map es =>
    obtain ⟨ces, clk, h1, h2, h3, h4⟩ := h
    refine ⟨ces, clk, hw.trans h1, ?_, ?_, h4⟩
    · have := e.repL h2
      rw [renL_map, List.map_map] at this
      rw [List.map_map]; exact this
    · have := e.repL h3
      rw [renL_map, List.map_map] at this
      rw [List.map_map]; exact this
  | arr T sz n f =>
    obtain ⟨vs, fr, h1, h0, h2, h3, h4, h5⟩ := h
    refine ⟨vs, fr, hw.trans h1, h0, h2, h3, h4.trans hs.symm, fun j hj => ?_⟩
    rw [ren_cells]
    exact e.repL (h5 j hj)
  | siter s p => exact hw.trans h
theorem Seen.blk {ρ θ : Nat → Nat} {nx nk : Nat} {X Y : Cx} (e : Seen ρ θ nx nk X Y) {b : Nat} {blk : Blk} (hw : Y.w.heap[b]? = X.w.heap[b]?) (hu : underB nx nk blk) (h : BlkRel X b (renB ρ θ blk)) : BlkRel Y b blk := by
  cases blk with
  | cells cs => obtain ⟨vs, T, h1, h2⟩ := h; exact ⟨vs, T, hw.trans h1, e.repL cs hu h2⟩
  | tcells T cs => obtain ⟨vs, h1, h2⟩ := h; exact ⟨vs, hw.trans h1, e.repL cs hu h2⟩
  | map es =>
    obtain ⟨ces, clk, h1, h2, h3, h4⟩ := h
    refine ⟨ces, clk, hw.trans h1, e.repL _ hu.1 ?_, e.repL _ hu.2 ?_, h4⟩
    · rw [renL_map, List.map_map]; rw [List.map_map] at h2; exact h2
    · rw [renL_map, List.map_map]; rw [List.map_map] at h3; exact h3
  | arr T sz n f =>
    obtain ⟨vs, fr, h1, h0, h2, h3, h4, h5⟩ := h
    refine ⟨vs, fr, hw.trans h1, h0, h2, h3, h4.trans (e.bs b).symm, fun j hj => e.repL _ (under_cells (hu j hj)) ?_⟩
    rw [← ren_cells]
    exact h5 j hj
  | siter s p => exact hw.trans h

/-- One block tells no less than another. -/
def leB (b b' : Blk) : Prop := ∀ X i, BlkAt X i b → BlkAt X i b'
theorem leB.refl (b : Blk) : leB b b := fun _ _ h => h
theorem leB.arr {T sz n n' : Nat} {f f' : Nat → AV} (hn : n' ≤ n) (hf : ∀ j, j < n' → f j = f' j) : leB (.arr T sz n f) (.arr T sz n' f') := by
  rintro X i (⟨b, h1, vs, fr, k1, k2, k3, k4, k5, k6⟩ | ⟨h1, T', sz', f2, h2⟩)
  · exact .inl ⟨b, h1, vs, fr, k1, k2, k3, Nat.le_trans (Nat.mul_le_mul_right _ hn) k4, k5, fun j hj => by rw [← hf j hj]; exact k6 j (Nat.lt_of_lt_of_le hj hn)⟩
  · cases h2
    obtain rfl : n' = 0 := by omega
    exact .inr ⟨h1, _, _, _, rfl⟩
/-- A small memory, within a greater one: the names of its blocks and owners there. -/
structure Within (m M : St) (l lt : List Nat) : Prop where
  nd : l.Nodup
  below : ∀ a ∈ l, a < M.nx
  len : l.length = m.nx
  ndk : lt.Nodup
  belowk : ∀ a ∈ lt, a < M.nk
  lenk : lt.length = m.nk
  hb : ∀ i, i < m.nx → ∃ blk blk2, m.h i = some blk ∧ underB m.nx m.nk blk ∧ M.h (nam l M.nx i) = some blk2 ∧ leB blk2 (renB (nam l M.nx) (nam lt M.nk) blk)
  hn : ∀ i blk, m.h i = some blk → i < m.nx
  k : ∀ t, t < m.nk → M.k (nam lt M.nk t) = m.k t
  kn : ∀ t, m.nk ≤ t → m.k t = none
/-- The greater memory, the small one having turned. -/
def St.within (M m m' : St) (l lt : List Nat) : St :=
  ⟨0, .leaf, fun j => match inv l M.nx j with | some i => (match m'.h i with | some blk => some (renB (nam l M.nx) (nam lt M.nk) blk) | none => none) | none => M.h j, M.nx + (m'.nx - m.nx),
    fun u => match inv lt M.nk u with | some t => m'.k t | none => M.k u, M.nk + (m'.nk - m.nk)⟩
theorem nam_mem {l : List Nat} {d i : Nat} (h : i < l.length) : nam l d i ∈ l := by
  unfold nam
  rw [List.getElem?_eq_getElem h]
  exact List.getElem_mem h
theorem pos_nam {l : List Nat} {d i : Nat} (hn : l.Nodup) (h : i < l.length) : pos l (nam l d i) = some i := by
  refine pos_of hn ?_
  unfold nam
  rw [List.getElem?_eq_getElem h]
theorem pos_lt {l : List Nat} {i j : Nat} (h : pos l j = some i) : i < l.length := (List.getElem?_eq_some_iff.1 (pos_get h)).1
theorem inv_lt {l : List Nat} {d j i : Nat} (hl : ∀ a ∈ l, a < d) (h : inv l d j = some i) : (i < l.length ∧ j ∈ l ∧ pos l j = some i) ∨ (d ≤ j ∧ i = l.length + (j - d)) := by
  unfold inv at h
  split at h
  · rename_i k hk
    injection h with h; subst h
    exact .inl ⟨pos_lt hk, List.mem_of_getElem? (pos_get hk), hk⟩
  · split at h
    · rename_i hb
      injection h with h; subst h
      exact .inr ⟨by simpa [Nat.ble_eq] using hb, rfl⟩
    · cases h
theorem inv_none {l : List Nat} {d j : Nat} (h : inv l d j = none) : pos l j = none ∧ j < d := by
  unfold inv at h
  split at h
  · cases h
  · rename_i hp
    split at h
    · cases h
    · rename_i hb
      refine ⟨hp, ?_⟩
      have : ¬ Nat.ble d j = true := by rw [hb]; simp
      rw [Nat.ble_eq] at this
      omega
theorem nam_of_pos {l : List Nat} {d j i : Nat} (h : pos l j = some i) : nam l d i = j := by
  unfold nam; rw [pos_get h]

def ownS (l lt : List Nat) : Option (Sum Nat Nat) → Option (Sum Nat Nat)
  | some (.inl j) => (pos l j).map .inl
  | some (.inr u) => (pos lt u).map .inr
  | none => none
def ownB (ρ θ : Nat → Nat) (old : Option (Sum Nat Nat)) : Option (Sum Nat Nat) → Option (Sum Nat Nat)
  | some (.inl i) => some (.inl (ρ i))
  | some (.inr t) => some (.inr (θ t))
  | none => old
/-- THE FRAME RULE. -/
theorem hc_frame {P : Program} {G : World → Prop} {f : FuncId} {args : List AV} {m m' : St} {r : AV} (hp : HC P G f args m r m') {M : St} {l lt : List Nat} (w : Within m M l lt) (hx : m.nx ≤ m'.nx) (hk : m.nk ≤ m'.nk) (hau : underL m.nx m.nk args = true)
    {N : St} (hN : ∀ Y, HRel M Y → ∀ j blk, N.h j = some blk → (M.within m m' l lt).h j = some blk) (hNx : N.nx = M.nx + (m'.nx - m.nx)) (hNk : ∀ Y, HRel M Y → N.k = (M.within m m' l lt).k) (hNn : N.nk = M.nk + (m'.nk - m.nk)) :
    HC P G f (renL (nam l M.nx) (nam lt M.nk) args) M (ren (nam l M.nx) (nam lt M.nk) r) N := by
  intro Y cargs hgb hr ha
  let ρ := nam l M.nx
  let θ := nam lt M.nk
  -- the small memory's view
  let X : Cx := { w := Y.w, L := Y.L, μ := fun i => if i < m.nx then Y.μ (ρ i) else none, τ := fun t => if t < m.nk then Y.τ (θ t) else none, κ := m.k, bs := Y.bs, own := fun b => ownS l lt (Y.own b) }
  have hρ : ∀ i, i < m.nx → pos l (ρ i) = some i := fun i hi => pos_nam w.nd (by rw [w.len]; exact hi)
  have hθ : ∀ t, t < m.nk → pos lt (θ t) = some t := fun t ht => pos_nam w.ndk (by rw [w.lenk]; exact ht)
  have hXμ : ∀ i b, X.μ i = some b → i < m.nx ∧ Y.μ (ρ i) = some b := fun i b h => by
    have h : (if i < m.nx then Y.μ (ρ i) else none) = some b := h
    split at h
    · exact ⟨‹_›, h⟩
    · cases h
  have hXτ : ∀ t c, X.τ t = some c → t < m.nk ∧ Y.τ (θ t) = some c := fun t c h => by
    have h : (if t < m.nk then Y.τ (θ t) else none) = some c := h
    split at h
    · exact ⟨‹_›, h⟩
    · cases h
  have hXown : ∀ b j, Y.own b = some (.inl j) → X.own b = (pos l j).map .inl := fun b j h => by show ownS l lt (Y.own b) = _; rw [h]; rfl
  have hXownr : ∀ b u, Y.own b = some (.inr u) → X.own b = (pos lt u).map .inr := fun b u h => by show ownS l lt (Y.own b) = _; rw [h]; rfl
  have hXnone : ∀ b, Y.own b = none → X.own b = none := fun b h => by show ownS l lt (Y.own b) = _; rw [h]; rfl
  have hκ : ∀ t, t < m.nk → Y.κ (θ t) = m.k t := fun t ht => (hr.kap _).trans (w.k t ht)
  have seen : Seen ρ θ m.nx m.nk Y X := ⟨fun _ _ _ h => h, fun i b hi h => (if_pos hi).trans h, fun _ => rfl, Nat.le_refl _, fun t c ht h => ⟨(hκ t ht).symm.trans h, if_pos ht⟩⟩
  have hrX : HRel m X := {
    heap := fun i blk hi => by
      have hlt := w.hn i blk hi
      obtain ⟨blk', blk2, h1, h2, h3, h4⟩ := w.hb i hlt
      rw [hi] at h1; cases h1
      refine ⟨hlt, ?_⟩
      rcases h4 _ _ (hr.heap _ _ h3).2 with ⟨b, k2, k3⟩ | ⟨k2, T, sz, f, k3⟩
      · exact .inl ⟨b, (if_pos hlt).trans k2, seen.blk rfl h2 k3⟩
      · refine .inr ⟨(if_pos hlt).trans k2, ?_⟩
        cases blk <;> simp only [renB] at k3 <;> cases k3
        exact ⟨_, _, _, rfl⟩
    ow := fun i blk b hi hb => by
      obtain ⟨hlt, hb'⟩ := hXμ i b hb
      obtain ⟨blk', blk2, h1, h2, h3, h4⟩ := w.hb i hlt
      obtain ⟨o1, o2⟩ := hr.ow _ _ b h3 hb'
      refine ⟨?_, o2⟩
      rw [hXown b _ o1, hρ i hlt]; rfl
    mu := fun i b hb => by
      obtain ⟨hlt, hb'⟩ := hXμ i b hb
      exact ⟨hlt, (hr.mu _ _ hb').2⟩
    kap := fun t => rfl
    kn := fun t len h => by
      rcases Nat.lt_or_ge t m.nk with hlt | hge
      · exact hlt
      · rw [w.kn t hge] at h; cases h
    tok := fun t b cap sz h => by
      obtain ⟨hlt, h'⟩ := hXτ t _ h
      obtain ⟨len, T, cs, k1, k2, k3, k4, k5, k6, k7⟩ := hr.tok _ _ _ _ h'
      refine ⟨len, T, cs, (w.k t hlt).symm.trans k1, k2, k3, k4, k5, k6, ?_⟩
      rw [hXownr b _ k7, hθ t hlt]; rfl }
  have hgX : GB G X := by
    obtain ⟨w0, h1, h2, h3⟩ := hgb
    exact ⟨w0, h1, h2, fun b hb => hXnone b (h3 b hb)⟩
  refine (hp X cargs hgX hrX (seen.repL args hau ha)).mono ?_
  rintro e w' ⟨cv, X', rfl, rfl, h', hv, hf⟩
  classical
  let Y' : Cx := {
    w := X'.w, L := X'.L,
    μ := fun j => (match inv l M.nx j with | some i => X'.μ i | none => Y.μ j),
    τ := fun u => (match inv lt M.nk u with | some t => X'.τ t | none => Y.τ u),
    κ := (M.within m m' l lt).k,
    own := fun b => ownB ρ θ (if b < Y.w.heap.size ∧ X.own b = none then Y.own b else none) (X'.own b),
    bs := X'.bs }
  have hinv : ∀ i, inv l M.nx (ρ i) = some i := fun i => inv_nam w.nd w.below
  have hinvk : ∀ t, inv lt M.nk (θ t) = some t := fun t => inv_nam w.ndk w.belowk
  have hYμ : ∀ i, Y'.μ (ρ i) = X'.μ i := fun i => by show (match inv l M.nx (ρ i) with | some i => _ | none => _) = _; rw [hinv]
  have hYτ : ∀ t, Y'.τ (θ t) = X'.τ t := fun t => by show (match inv lt M.nk (θ t) with | some i => _ | none => _) = _; rw [hinvk]
  have hYκ : ∀ t, Y'.κ (θ t) = X'.κ t := fun t => by rw [h'.kap]; show (match inv lt M.nk (θ t) with | some i => _ | none => _) = _; rw [hinvk]
  have hYo : ∀ b i, X'.own b = some (.inl i) → Y'.own b = some (.inl (ρ i)) := fun b i h => by show ownB ρ θ _ (X'.own b) = _; rw [h]; rfl
  have hYor : ∀ b t, X'.own b = some (.inr t) → Y'.own b = some (.inr (θ t)) := fun b i h => by show ownB ρ θ _ (X'.own b) = _; rw [h]; rfl
  have sees : Sees ρ θ X' Y' := ⟨fun _ _ _ h => h, fun i b h => (hYμ i).trans h, fun _ _ => rfl, Nat.le_refl _, fun t c h => ⟨(hYκ t).trans h, hYτ t⟩⟩
  -- what belongs to others
  have other : ∀ b, b < Y.w.heap.size → X.own b = none → Y'.w.heap[b]? = Y.w.heap[b]? ∧ Y'.own b = Y.own b ∧ Y'.L b = Y.L b ∧ Y'.bs b = Y.bs b := fun b hb ho => by
    obtain ⟨k1, k2, k3⟩ := hf.blk b hb ho
    refine ⟨k1, ?_, k3, hf.ext.bs b hb⟩
    show ownB ρ θ _ (X'.own b) = _
    rw [k2]
    exact if_pos ⟨hb, ho⟩
  have oth : ∀ j blk b, M.h j = some blk → Y.μ j = some b → pos l j = none → X.own b = none := fun j blk b hj h hn => by rw [hXown b j (hr.ow j blk b hj h).1, hn]; rfl
  have othk : ∀ u b cap sz, Y.τ u = some (b, cap, sz) → pos lt u = none → X.own b = none := fun u b cap sz h hn => by
    obtain ⟨_, _, _, _, _, _, _, _, _, k7⟩ := hr.tok u b cap sz h
    rw [hXownr b u k7, hn]; rfl
  have hE : Ext2 Y Y' := {
    at_ := fun b o v h => hf.ext.at_ b o v h
    mu := fun j b h => by
      show (match inv l M.nx j with | some i => X'.μ i | none => Y.μ j) = some b
      cases hi : inv l M.nx j with
      | none => exact h
      | some i =>
        rcases inv_lt w.below hi with ⟨h1, h2, h3⟩ | ⟨h1, h2⟩
        · refine hf.ext.mu i b ((if_pos (by rw [← w.len]; exact h1)).trans ?_)
          rw [show ρ i = j from nam_of_pos h3]; exact h
        · have := (hr.mu j b h).1; omega
    bs := fun b hb => hf.ext.bs b hb
    lt := hf.size
    nil := fun p u h => by
      cases u with
      | no => trivial
      | nil => trivial
      | tight => trivial
      | tok u =>
        obtain ⟨q1, c, U, q2, q3⟩ := h
        have hlt : u < M.nk := hr.kn u _ ((hr.kap u).symm.trans q2)
        cases hi : inv lt M.nk u with
        | none =>
          refine ⟨q1, c, U, ?_, fun h0 => ?_⟩
          · show (match inv lt M.nk u with | some t => m'.k t | none => M.k u) = some (c, U)
            rw [hi]; exact (hr.kap u).symm.trans q2
          · show (match inv lt M.nk u with | some t => X'.τ t | none => Y.τ u) = none
            rw [hi]; exact q3 h0
        | some t =>
          rcases inv_lt w.belowk hi with ⟨h1, h2, h3⟩ | ⟨h1, h2⟩
          · have htl : t < m.nk := by rw [← w.lenk]; exact h1
            have hut : θ t = u := nam_of_pos h3
            have hX : TagNil X p (.tok t) := ⟨q1, c, U, by show m.k t = some (c, U); rw [← hκ t htl, hut]; exact q2, fun h0 => (if_pos htl).trans (by rw [hut]; exact q3 h0)⟩
            have := sees.tagNil (hf.ext.nil p (.tok t) hX)
            rwa [hut] at this
          · omega
    tag := fun p u b o cap sz len h => by
      cases u with
      | no => trivial
      | nil => exact h
      | tight => exact h
      | tok u =>
        obtain ⟨q1, c, U, q2, q3, q4⟩ := h
        have hlt : u < M.nk := hr.kn u _ ((hr.kap u).symm.trans q2)
        cases hi : inv lt M.nk u with
        | none =>
          refine ⟨q1, c, U, ?_, q3, fun h0 => ?_⟩
          · show (match inv lt M.nk u with | some t => m'.k t | none => M.k u) = some (c, U)
            rw [hi]; exact (hr.kap u).symm.trans q2
          · show _ ∧ (match inv lt M.nk u with | some t => X'.τ t | none => Y.τ u) = _ ∨ _ ∧ (match inv lt M.nk u with | some t => X'.τ t | none => Y.τ u) = _
            rw [hi]; exact q4 h0
        | some t =>
          rcases inv_lt w.belowk hi with ⟨h1, h2, h3⟩ | ⟨h1, h2⟩
          · have htl : t < m.nk := by rw [← w.lenk]; exact h1
            have hut : θ t = u := nam_of_pos h3
            have hXτ' : X.τ t = Y.τ u := (if_pos htl).trans (by rw [hut])
            have hX : TagOk X p (.tok t) b o cap sz len := ⟨q1, c, U, by show m.k t = some (c, U); rw [← hκ t htl, hut]; exact q2, q3, fun h0 => by rw [hXτ']; exact q4 h0⟩
            have := sees.tagOk (hf.ext.tag p (.tok t) b o cap sz len hX)
            rwa [hut] at this
          · omega }
  refine ⟨cv, Y', rfl, rfl, ?_, sees.rep hv, ⟨hf.os, hf.tape, hf.output, hf.size, fun b hb ho => ?_, hE⟩⟩
  · exact {
      heap := fun j blk hj => by
        have hj := hN Y hr j blk hj
        rw [hNx]
        simp only [St.within] at hj
        cases hi : inv l M.nx j with
        | none =>
          rw [hi] at hj
          obtain ⟨k1, k2⟩ := hr.heap j blk hj
          refine ⟨by omega, ?_⟩
          have hm : Y'.μ j = Y.μ j := by show (match inv l M.nx j with | some i => X'.μ i | none => Y.μ j) = _; rw [hi]
          exact k2.mono hE hm fun b hb hlt => (other b hlt (oth j blk b hj hb (inv_none hi).1)).1
        | some i =>
          rw [hi] at hj
          simp only at hj
          cases hm : m'.h i with
          | none => rw [hm] at hj; cases hj
          | some blk0 =>
            rw [hm] at hj
            injection hj with hj
            subst hj
            obtain ⟨k1, k2⟩ := h'.heap i blk0 hm
            have hjρ : ρ i = j := nam_inv hi
            refine ⟨?_, ?_⟩
            · rcases inv_lt w.below hi with ⟨h1, h2, _⟩ | ⟨h1, h2⟩
              · have := w.below j h2; omega
              · have := w.len; omega
            · rcases k2 with ⟨b, k2, k3⟩ | ⟨k2, T, sz, f, rfl⟩
              · exact .inl ⟨b, by rw [← hjρ, hYμ]; exact k2, sees.blk rfl rfl k3⟩
              · exact .inr ⟨by rw [← hjρ, hYμ]; exact k2, _, _, _, rfl⟩
      ow := fun j blk b hj hb => by
        have hj := hN Y hr j blk hj
        simp only [St.within] at hj
        have hb : (match inv l M.nx j with | some i => X'.μ i | none => Y.μ j) = some b := hb
        cases hi : inv l M.nx j with
        | none =>
          rw [hi] at hb hj
          obtain ⟨o1, o2, o3, o4⟩ := other b (hr.mu j b hb).2 (oth j blk b hj hb (inv_none hi).1)
          obtain ⟨p1, p2⟩ := hr.ow j blk b hj hb
          exact ⟨o2.trans p1, o3.trans p2⟩
        | some i =>
          rw [hi] at hb hj
          simp only at hj
          cases hm : m'.h i with
          | none => rw [hm] at hj; cases hj
          | some blk0 =>
            obtain ⟨p1, p2⟩ := h'.ow i blk0 b hm hb
            exact ⟨by rw [hYo b i p1, show ρ i = j from nam_inv hi], p2⟩
      mu := fun j b hb => by
        have hb : (match inv l M.nx j with | some i => X'.μ i | none => Y.μ j) = some b := hb
        rw [hNx]
        cases hi : inv l M.nx j with
        | none =>
          rw [hi] at hb
          obtain ⟨q1, q2⟩ := hr.mu j b hb
          exact ⟨by omega, Nat.lt_of_lt_of_le q2 hf.size⟩
        | some i =>
          rw [hi] at hb
          obtain ⟨q1, q2⟩ := h'.mu i b hb
          refine ⟨?_, q2⟩
          rcases inv_lt w.below hi with ⟨h1, h2, _⟩ | ⟨h1, h2⟩
          · have := w.below j h2; omega
          · have := w.len; omega
      kap := fun u => by rw [hNk Y hr]
      kn := fun u len hu => by
        rw [hNk Y hr] at hu
        rw [hNn]
        simp only [St.within] at hu
        cases hi : inv lt M.nk u with
        | none => have := (inv_none hi).2; omega
        | some t =>
          rw [hi] at hu
          have := h'.kn t len hu
          rcases inv_lt w.belowk hi with ⟨h1, h2, _⟩ | ⟨h1, h2⟩
          · have := w.belowk u h2; omega
          · have := w.lenk; omega
      tok := fun u b cap sz hu => by
        have hu : (match inv lt M.nk u with | some t => X'.τ t | none => Y.τ u) = some (b, cap, sz) := hu
        rw [hNk Y hr]
        simp only [St.within]
        cases hi : inv lt M.nk u with
        | none =>
          rw [hi] at hu
          obtain ⟨len, T, cs, k1, k2, k3, k4, k5, k6, k7⟩ := hr.tok u b cap sz hu
          obtain ⟨o1, o2, o3, o4⟩ := other b (blk_lt k3) (othk u b cap sz hu (inv_none hi).1)
          exact ⟨len, T, cs, k1, k2, o1.trans k3, k4, k5, o3.trans k6, o2.trans k7⟩
        | some t =>
          rw [hi] at hu
          obtain ⟨len, T, cs, k1, k2, k3, k4, k5, k6, k7⟩ := h'.tok t b cap sz hu
          exact ⟨len, T, cs, k1, k2, k3, k4, k5, k6, by rw [hYor b t k7, show θ t = u from nam_inv hi]⟩ }
  · obtain ⟨o1, o2, o3, o4⟩ := other b hb (hXnone b ho)
    exact ⟨o1, o2.trans ho, o3⟩
end Go.Ab
