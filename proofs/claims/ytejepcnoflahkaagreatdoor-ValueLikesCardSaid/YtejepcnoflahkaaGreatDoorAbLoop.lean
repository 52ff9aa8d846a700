/- The symbolic evaluator: loops: a family of states, and what a state may be weakened to. -/
import Derived.Test.YtejepcnoflahkaaGreatDoorAbSound12
import Derived.Deep.LoopGhost
namespace Go.Ab
set_option linter.unusedVariables false

mutual
/-- It speaks of no block and no owner from these on. -/
def under (nx nk : Nat) : AV → Bool
  | .any => true
  | .int .. => true
  | .bool _ => true
  | .str _ => true
  | .agg cs => underL nx nk cs
  | .tup cs => underL nx nk cs
  | .nilp => true
  | .nilm => true
  | .nilf => true
  | .nili => true
  | .sl tag _ _ => match tag with
    | .no => true
    | .nil => true
    | .tight => true
    | .tok t => Nat.blt t nk
  | .ptr i _ => Nat.blt i nx
  | .hs i _ _ _ _ => Nat.blt i nx
  | .eptr i _ _ _ => Nat.blt i nx
  | .cptr .. => true
  | .map i => Nat.blt i nx
  | .clo _ a b => match underL nx nk a with | true => underL nx nk b | false => false
  | .ifc _ v => under nx nk v
  | .nxt .. => true
def underL (nx nk : Nat) : List AV → Bool
  | [] => true
  | a :: as => match under nx nk a with | true => underL nx nk as | false => false
end

/-! Blocks that get other names: (i, j): i is what was j. -/
def mvT : List (Nat × Nat) → Nat → Option Nat
  | [], _ => none
  | (i, j) :: l, k => match Nat.beq i k with
    | true => some j
    | false => mvT l k
def mvS : List (Nat × Nat) → Nat → Option Nat
  | [], _ => none
  | (i, j) :: l, k => match Nat.beq j k with
    | true => some i
    | false => mvS l k
def srcOf (mv : List (Nat × Nat)) (i : Nat) : Nat :=
  match mvT mv i with
  | some j => j
  | none => i
def backOf (mv : List (Nat × Nat)) (j : Nat) : Nat :=
  match mvS mv j with
  | some i => i
  | none => j
/-- no new name -/
def isOld (mv : List (Nat × Nat)) (i : Nat) : Bool :=
  match mvT mv i with
  | some _ => false
  | none => true
mutual
/-- It speaks of no block by a new name. -/
def avoid (mv : List (Nat × Nat)) : AV → Bool
  | .agg cs => avoidL mv cs
  | .tup cs => avoidL mv cs
  | .ptr i _ => isOld mv i
  | .hs i _ _ _ _ => isOld mv i
  | .eptr i _ _ _ => isOld mv i
  | .map i => isOld mv i
  | .clo _ a b => match avoidL mv a with | true => avoidL mv b | false => false
  | .ifc _ v => avoid mv v
  | _ => true
def avoidL (mv : List (Nat × Nat)) : List AV → Bool
  | [] => true
  | a :: as => match avoid mv a with | true => avoidL mv as | false => false
end
def keepV (mv : List (Nat × Nat)) (nx nk : Nat) (v : AV) : Bool := match avoid mv v with | true => under nx nk v | false => false
def keepL (mv : List (Nat × Nat)) (nx nk : Nat) (v : List AV) : Bool := match avoidL mv v with | true => underL nx nk v | false => false
theorem keepV_both {mv : List (Nat × Nat)} {nx nk : Nat} {v : AV} (h : keepV mv nx nk v = true) : under nx nk v = true ∧ avoid mv v = true := by
  unfold keepV at h
  split at h
  · exact ⟨h, ‹_›⟩
  · cases h
theorem keepL_both {mv : List (Nat × Nat)} {nx nk : Nat} {v : List AV} (h : keepL mv nx nk v = true) : underL nx nk v = true ∧ avoidL mv v = true := by
  unfold keepL at h
  split at h
  · exact ⟨h, ‹_›⟩
  · cases h

/-- What is kept of a context: the blocks and owners under these; new owners; blocks by other names. -/
def Cx.cut (X : Cx) (nx nk : Nat) (k' : Nat → Option (Nat × Nat)) (mv : List (Nat × Nat)) : Cx :=
  { X with μ := fun i => if i < nx then X.μ (srcOf mv i) else none, τ := fun t => if t < nk then X.τ t else none, κ := k',
           own := fun b => match X.own b with
             | some (.inl j) => some (.inl (backOf mv j))
             | o => o }

/-- One value stands for no less than another, once the state has been cut. -/
def Wv (mv : List (Nat × Nat)) (s s' : St) (v v' : AV) : Prop :=
  (∀ t, t < min s.nk s'.nk → s'.k t = s.k t) → ∀ X : Cx, (∀ t, X.κ t = s.k t) → (∀ t, s.nk ≤ t → X.τ t = none) → ∀ cv, Rep X false v cv → Rep (X.cut s'.nx (min s.nk s'.nk) s'.k mv) false v' cv
def WvL (mv : List (Nat × Nat)) (s s' : St) (v v' : List AV) : Prop :=
  (∀ t, t < min s.nk s'.nk → s'.k t = s.k t) → ∀ X : Cx, (∀ t, X.κ t = s.k t) → (∀ t, s.nk ≤ t → X.τ t = none) → ∀ cv, RepL X false v cv → RepL (X.cut s'.nx (min s.nk s'.nk) s'.k mv) false v' cv

def WvB (mv : List (Nat × Nat)) (s s' : St) : Blk → Blk → Prop
  | .cells a, .cells b => WvL mv s s' a b
  | .tcells T a, .tcells U b => T = U ∧ WvL mv s s' a b
  | .arr T sz n f, .arr T' sz' n' f' => T = T' ∧ sz = sz' ∧ n' ≤ n ∧ ∀ j, j < n' → WvL mv s s' (f j).cells (f' j).cells
  | .siter a p, .siter b q => a = b ∧ p = q
  | .map a, .map b => a = b ∧ keepL mv s'.nx (min s.nk s'.nk) (a.map (·.1)) = true ∧ keepL mv s'.nx (min s.nk s'.nk) (a.map (·.2)) = true
  | _, _ => False
/-- what a block of the one is of the other: the same, or nothing yet -/
def WvH (mv : List (Nat × Nat)) (s s' : St) (i : Nat) (b' : Blk) : Prop :=
  (backOf mv (srcOf mv i) = i ∧ ∃ b, s.h (srcOf mv i) = some b ∧ WvB mv s s' b b') ∨ (s.nx ≤ i ∧ mvT mv i = none ∧ ∃ T sz f, b' = .arr T sz 0 f)

structure Wk (mv : List (Nat × Nat)) (s s' : St) : Prop where
  n : s.n = s'.n
  k : ∀ t, t < min s.nk s'.nk → s'.k t = s.k t
  kn : ∀ t, s'.nk ≤ t → s'.k t = none
  t : ∀ i, Wv mv s s' (s.t.get i) (s'.t.get i)
  h : ∀ i b', s'.h i = some b' → i < s'.nx ∧ WvH mv s s' i b'

theorem cut_at {X : Cx} {nx nk k' mv} {b o v} : (X.cut nx nk k' mv).at_ b o v ↔ X.at_ b o v := Iff.rfl
def tagLt (nk : Nat) (tag : Tag) : Prop :=
  match tag with
  | .tok t => t < nk
  | _ => True
theorem cut_ext (X : Cx) (nx nk : Nat) (k' : Nat → Option (Nat × Nat)) (mv : List (Nat × Nat)) : Ext X (X.cut nx nk k' mv) := fun _ _ _ h => h
theorem TagOk.cut {mv : List (Nat × Nat)} {s s' : St} {X : Cx} (hk : ∀ t, t < min s.nk s'.nk → s'.k t = s.k t) (h1 : ∀ t, X.κ t = s.k t) {p tag b o cap sz len} (hb : tagLt (min s.nk s'.nk) tag) (h : TagOk X p tag b o cap sz len) : TagOk (X.cut s'.nx (min s.nk s'.nk) s'.k mv) p tag b o cap sz len := by
  cases tag with
  | no => trivial
  | nil => exact h
  | tight => exact h
  | tok t =>
    obtain ⟨hp, c, U, h2, h3, h4⟩ := h
    refine ⟨hp, c, U, (hk t hb).trans ((h1 t).symm.trans h2), h3, fun e => ?_⟩
    have : (X.cut s'.nx (min s.nk s'.nk) s'.k mv).τ t = X.τ t := if_pos hb
    rw [this]
    exact h4 e
theorem TagNil.cut {mv : List (Nat × Nat)} {s s' : St} {X : Cx} (hk : ∀ t, t < min s.nk s'.nk → s'.k t = s.k t) (h1 : ∀ t, X.κ t = s.k t) {p tag} (hb : tagLt (min s.nk s'.nk) tag) (h : TagNil X p tag) : TagNil (X.cut s'.nx (min s.nk s'.nk) s'.k mv) p tag := by
  cases tag with
  | no => trivial
  | nil => exact h
  | tight => exact h
  | tok t =>
    obtain ⟨hp, c, U, h2, h4⟩ := h
    refine ⟨hp, c, U, (hk t hb).trans ((h1 t).symm.trans h2), fun e => ?_⟩
    have : (X.cut s'.nx (min s.nk s'.nk) s'.k mv).τ t = X.τ t := if_pos hb
    rw [this]
    exact h4 e

theorem under_tag {nx nk : Nat} {tag : Tag} {n : Nat} {f : Nat → AV} (h : under nx nk (.sl tag n f) = true) : tagLt nk tag := by
  cases tag with
  | tok t => show t < nk; simpa [under, Nat.blt_eq] using h
  | _ => trivial

theorem cut_mu {X : Cx} {nx nk : Nat} {k'} {mv : List (Nat × Nat)} {i b : Nat} (h : X.μ i = some b) (hb : Nat.blt i nx = true) (ha : isOld mv i = true) : (X.cut nx nk k' mv).μ i = some b := by
  have e : srcOf mv i = i := by
    cases hm : mvT mv i <;> simp_all [isOld, srcOf]
  show (if _ then _ else _) = _
  rw [if_pos (by simpa [Nat.blt_eq] using hb), e]; exact h
mutual
theorem Rep.cut {mv : List (Nat × Nat)} {s s' : St} {X : Cx} (hk : ∀ t, t < min s.nk s'.nk → s'.k t = s.k t) (h1 : ∀ t, X.κ t = s.k t) : ∀ {p a v}, Rep X p a v → under s'.nx (min s.nk s'.nk) a = true → avoid mv a = true → Rep (X.cut s'.nx (min s.nk s'.nk) s'.k mv) p a v
  | _, _, _, .any .., _, _ => .any ..
  | _, _, _, .int .., _, _ => .int ..
  | _, _, _, .bool .., _, _ => .bool ..
  | _, _, _, .str .., _, _ => .str ..
  | _, _, _, .agg h, hb, ha => .agg (RepL.cut hk h1 h (by simpa [under] using hb) (by simpa [avoid] using ha))
  | _, _, _, .tup h, hb, ha => .tup (RepL.cut hk h1 h (by simpa [under] using hb) (by simpa [avoid] using ha))
  | _, _, _, .nilp .., _, _ => .nilp ..
  | _, _, _, .nilm .., _, _ => .nilm ..
  | _, _, _, .nilf .., _, _ => .nilf ..
  | _, _, _, .nili .., _, _ => .nili ..
  | _, _, _, .snil f A h hn, hb, _ => .snil f A (h.cut hk h1 (under_tag hb)) hn
  | _, _, _, .sl b o cap sz g hz hc hr hg ha ht, hb, _ =>
    .sl b o cap sz g hz hc (fun i hi => RepL.pmono (cut_ext _ _ _ _ _) rfl (hr i hi)) hg ha (ht.cut hk h1 (under_tag hb))
  | _, _, _, .ptr off h, hb, ha => .ptr off (cut_mu h (by simpa [under] using hb) (by simpa [avoid] using ha))
  | _, _, _, .hs lo n sz cap capc o h hl hz hn hc ho hbs, hb, ha => .hs lo n sz cap capc o (cut_mu h (by simpa [under] using hb) (by simpa [avoid] using ha)) hl hz hn hc ho hbs
  | _, _, _, .hs0 i lo sz cap hz hc, _, _ => .hs0 i lo sz cap hz hc
  | _, _, _, .eptr j sz off h, hb, ha => .eptr j sz off (cut_mu h (by simpa [under] using hb) (by simpa [avoid] using ha))
  | _, _, _, .cptr h ha, _, _ => .cptr (RepL.pmono (cut_ext _ _ _ _ _) rfl h) ha
  | _, _, _, .map h, hb, ha => .map (cut_mu h (by simpa [under] using hb) (by simpa [avoid] using ha))
  | _, _, _, .clo k1 k2, hb, ha => .clo (RepL.cut hk h1 k1 (by simp only [under] at hb; split at hb <;> first | assumption | cases hb) (by simp only [avoid] at ha; split at ha <;> first | assumption | cases ha)) (RepL.cut hk h1 k2 (by simp only [under] at hb; split at hb <;> first | assumption | cases hb) (by simp only [avoid] at ha; split at ha <;> first | assumption | cases ha))
  | _, _, _, .ifc h, hb, ha => .ifc (Rep.cut hk h1 h (by simpa [under] using hb) (by simpa [avoid] using ha))
  | _, _, _, .nxtT .., _, _ => .nxtT ..
  | _, _, _, .nxtF .., _, _ => .nxtF ..
theorem RepL.cut {mv : List (Nat × Nat)} {s s' : St} {X : Cx} (hk : ∀ t, t < min s.nk s'.nk → s'.k t = s.k t) (h1 : ∀ t, X.κ t = s.k t) : ∀ {p a v}, RepL X p a v → underL s'.nx (min s.nk s'.nk) a = true → avoidL mv a = true → RepL (X.cut s'.nx (min s.nk s'.nk) s'.k mv) p a v
  | _, _, _, .nil, _, _ => .nil
  | _, _, _, .cons h hs, hb, ha => .cons (Rep.cut hk h1 h (by simp only [underL] at hb; split at hb <;> first | assumption | cases hb) (by simp only [avoidL] at ha; split at ha <;> first | assumption | cases ha)) (RepL.cut hk h1 hs (by simp only [underL] at hb; split at hb <;> first | assumption | cases hb) (by simp only [avoidL] at ha; split at ha <;> first | assumption | cases ha))
end

/-- What a context keeps of another of the blocks and owners below these. -/
structure ExtB (nx nk : Nat) (X Y : Cx) : Prop where
  at_ : Ext X Y
  mu : ∀ i b, i < nx → X.μ i = some b → Y.μ i = some b
  bs : ∀ b, b < X.w.heap.size → Y.bs b = X.bs b
  lt : X.w.heap.size ≤ Y.w.heap.size
  nil : ∀ p t, tagLt nk t → TagNil X p t → TagNil Y p t
  tag : ∀ p t b o cap sz len, tagLt nk t → TagOk X p t b o cap sz len → TagOk Y p t b o cap sz len
theorem ExtB.of {X Y : Cx} (h : Ext2 X Y) (nx nk : Nat) : ExtB nx nk X Y := ⟨h.at_, fun i b _ => h.mu i b, h.bs, h.lt, fun p t _ => h.nil p t, fun p t b o c z l _ => h.tag p t b o c z l⟩
theorem ExtB.trans {nx nk : Nat} {X Y Z : Cx} (h : ExtB nx nk X Y) (k : ExtB nx nk Y Z) : ExtB nx nk X Z :=
  ⟨fun b o v r => k.at_ b o v (h.at_ b o v r), fun i b hi r => k.mu i b hi (h.mu i b hi r), fun b r => (k.bs b (Nat.lt_of_lt_of_le r h.lt)).trans (h.bs b r), Nat.le_trans h.lt k.lt, fun p t ht r => k.nil p t ht (h.nil p t ht r), fun p t b o c z l ht r => k.tag p t b o c z l ht (h.tag p t b o c z l ht r)⟩
theorem ExtB.ext2 {s : St} {a : Act} {X Y : Cx} (h : ExtB s.nx s.nk X Y) (r : Rel s a X) : Ext2 X Y where
  at_ := h.at_
  mu := fun i b hi => h.mu i b (r.mu i b hi).1 hi
  bs := h.bs
  lt := h.lt
  nil := fun p t ht => h.nil p t (by
    cases t with
    | tok t => obtain ⟨_, c, U, h1, _⟩ := ht; exact r.kn t (c, U) ((r.kap t).symm.trans h1)
    | _ => trivial) ht
  tag := fun p t b o c z l ht => h.tag p t b o c z l (by
    cases t with
    | tok t => obtain ⟨_, c, U, h1, _⟩ := ht; exact r.kn t (c, U) ((r.kap t).symm.trans h1)
    | _ => trivial) ht

/-- ... and all that has no owner. -/
structure FrB (nx nk : Nat) (X Y : Cx) : Prop where
  os : Y.w.os = X.w.os
  tape : Y.w.tape = X.w.tape
  output : Y.w.output = X.w.output
  size : X.w.heap.size ≤ Y.w.heap.size
  blk : ∀ b, b < X.w.heap.size → X.own b = none → Y.w.heap[b]? = X.w.heap[b]? ∧ Y.own b = none ∧ Y.L b = X.L b
  ext : ExtB nx nk X Y
theorem FrB.of {X Y : Cx} (h : Fr X Y) (nx nk : Nat) : FrB nx nk X Y := ⟨h.os, h.tape, h.output, h.size, h.blk, .of h.ext _ _⟩
theorem FrB.trans {nx nk : Nat} {X Y Z : Cx} (h : FrB nx nk X Y) (k : FrB nx nk Y Z) : FrB nx nk X Z :=
  ⟨k.os.trans h.os, k.tape.trans h.tape, k.output.trans h.output, Nat.le_trans h.size k.size, fun b hb ho => by
    obtain ⟨h1, h2, h3⟩ := h.blk b hb ho
    obtain ⟨k1, k2, k3⟩ := k.blk b (Nat.lt_of_lt_of_le hb h.size) h2
    exact ⟨k1.trans h1, k2, k3.trans h3⟩, h.ext.trans k.ext⟩
theorem FrB.gb {nx nk : Nat} {G : World → Prop} {X Y : Cx} (h : FrB nx nk X Y) : GB G X → GB G Y := by
  rintro ⟨w0, h1, h2, h3⟩
  refine ⟨w0, h1, ⟨h.os.trans h2.os, h.tape.trans h2.tape, h.output.trans h2.output, Nat.le_trans h2.size h.size, fun b hb => ?_⟩, fun b hb => ?_⟩
  · exact (h.blk b (Nat.lt_of_lt_of_le hb h2.size) (h3 b hb)).1.trans (h2.block b hb)
  · exact (h.blk b (Nat.lt_of_lt_of_le hb h2.size) (h3 b hb)).2.1
theorem FrB.fr {s : St} {a : Act} {X Y : Cx} (h : FrB s.nx s.nk X Y) (r : Rel s a X) : Fr X Y := ⟨h.os, h.tape, h.output, h.size, h.blk, h.ext.ext2 r⟩

theorem HRel.rel {m : St} {X : Cx} (h : HRel m X) : Rel m.mem ⟨#[], []⟩ X :=
  { size := rfl, dfr := rfl, tmps := fun t => by show Rep X false (TT.leaf.get t) _; rw [TT.get_leaf]; exact .any .., heap := h.heap, ow := h.ow, mu := h.mu, kap := h.kap, kn := h.kn, tok := h.tok }
theorem Wk.rel' {mv : List (Nat × Nat)} {s s' : St} (h : Wk mv s s') {a : Act} {X : Cx} (r : Rel s a X) {nx nk : Nat} (hx : nx ≤ s'.nx) (hn : nk ≤ s.nk) (hn' : nk ≤ s'.nk) (hmv : ∀ i, i < nx → mvT mv i = none) : ∃ Y : Cx, Y.w = X.w ∧ Rel s' a Y ∧ FrB nx nk X Y ∧ Y = X.cut s'.nx (min s.nk s'.nk) s'.k mv := by
  have hτ : ∀ t, s.nk ≤ t → X.τ t = none := fun t ht => by
    cases e : X.τ t with
    | none => rfl
    | some x =>
      obtain ⟨b, cap, sz⟩ := x
      obtain ⟨len, _, _, h1, _⟩ := r.tok t b cap sz e
      have := r.kn t _ h1
      omega
  have hlt : ∀ t, tagLt nk t → tagLt (min s.nk s'.nk) t := fun t ht => by
    cases t with
    | tok t => exact Nat.lt_of_lt_of_le ht (by omega)
    | _ => trivial
  have hmu : ∀ i b, (X.cut s'.nx (min s.nk s'.nk) s'.k mv).μ i = some b → i < s'.nx ∧ X.μ (srcOf mv i) = some b := fun i b hi => by
    have hi : (if i < s'.nx then X.μ (srcOf mv i) else none) = some b := hi
    split at hi
    · exact ⟨‹_›, hi⟩
    · cases hi
  refine ⟨X.cut s'.nx (min s.nk s'.nk) s'.k mv, rfl, ?_, ⟨rfl, rfl, rfl, Nat.le_refl _, fun b _ h => ⟨rfl, by show (match X.own b with | some (Sum.inl j) => some (Sum.inl (backOf mv j)) | o => o) = none; rw [h], rfl⟩, ⟨cut_ext _ _ _ _ _, fun i b hi hb => ?_, fun _ _ => rfl, Nat.le_refl _, fun p t ht => TagNil.cut h.k r.kap (hlt t ht), fun p t b o c z l ht => TagOk.cut h.k r.kap (hlt t ht)⟩⟩, rfl⟩
  rotate_left
  · have e : srcOf mv i = i := by unfold srcOf; rw [hmv i hi]
    show (if _ then _ else _) = _
    rw [if_pos (by omega), e]; exact hb
  exact {
    size := r.size.trans h.n
    dfr := r.dfr
    tmps := fun t => h.t t h.k X r.kap hτ _ (r.tmps t)
    heap := fun i b' hi => by
      obtain ⟨h1, h2⟩ := h.h i b' hi
      refine ⟨h1, ?_⟩
      have hmi : (X.cut s'.nx (min s.nk s'.nk) s'.k mv).μ i = X.μ (srcOf mv i) := by
        show (if _ then _ else _) = _
        rw [if_pos h1]
      rcases h2 with ⟨_, b, h2, h3⟩ | ⟨h2, h3, h4⟩
      rotate_left
      · refine .inr ⟨?_, h4⟩
        have e : srcOf mv i = i := by unfold srcOf; rw [h3]
        rw [hmi, e]
        cases hb : X.μ i with
        | none => rfl
        | some b => have := (r.mu i b hb).1; omega
      rcases (r.heap _ b h2).2 with ⟨c, k2, k3⟩ | ⟨k2, T, sz, f, rfl⟩
      rotate_left
      · refine .inr ⟨hmi.trans k2, ?_⟩
        cases b' with
        | arr T' sz' n' f' =>
          obtain ⟨rfl, rfl, hle, _⟩ := h3
          obtain rfl : n' = 0 := by omega
          exact ⟨_, _, _, rfl⟩
        | _ => exact h3.elim
      refine .inl ⟨c, hmi.trans k2, ?_⟩
      cases b with
      | tcells T cs =>
        cases b' with
        | tcells U cs' =>
          obtain ⟨rfl, h3⟩ := h3
          obtain ⟨vs, j1, j2⟩ := k3
          exact ⟨vs, j1, h3 h.k X r.kap hτ _ j2⟩
        | _ => exact h3.elim
      | cells cs =>
        cases b' with
        | cells cs' =>
          obtain ⟨vs, T, j1, j2⟩ := k3
          exact ⟨vs, T, j1, h3 h.k X r.kap hτ _ j2⟩
        | _ => exact h3.elim
      | arr T sz n f =>
        cases b' with
        | arr T' sz' n' f' =>
          obtain ⟨rfl, rfl, hle, h3⟩ := h3
          obtain ⟨vs, fr, j1, j0, j2, j3, j4, j5⟩ := k3
          exact ⟨vs, fr, j1, j0, j2, Nat.le_trans (Nat.mul_le_mul_right _ hle) j3, j4, fun j hj => h3 j hj h.k X r.kap hτ _ (j5 j (Nat.lt_of_lt_of_le hj hle))⟩
        | _ => exact h3.elim
      | siter sb p =>
        cases b' with
        | siter sb' p' =>
          obtain ⟨rfl, rfl⟩ := h3
          exact k3
        | _ => exact h3.elim
      | map es =>
        cases b' with
        | map es' =>
          obtain ⟨e, h3, h4⟩ := h3
          subst e
          obtain ⟨ces, clk, j1, j2, j3, j4⟩ := k3
          exact ⟨ces, clk, j1, RepL.cut h.k r.kap j2 (keepL_both h3).1 (keepL_both h3).2, RepL.cut h.k r.kap j3 (keepL_both h4).1 (keepL_both h4).2, j4⟩
        | _ => exact h3.elim
    ow := fun i b' b hi hb => by
      obtain ⟨h1, h2⟩ := h.h i b' hi
      obtain ⟨_, hb⟩ := hmu i b hb
      rcases h2 with ⟨hbk, b0, h2, _⟩ | ⟨h2, h3, h4⟩
      · obtain ⟨o1, o2⟩ := r.ow _ b0 b h2 hb
        refine ⟨?_, o2⟩
        show (match X.own b with | some (Sum.inl j) => some (Sum.inl (backOf mv j)) | o => o) = _
        rw [o1]
        simp only [hbk]
      · have e : srcOf mv i = i := by unfold srcOf; rw [h3]
        rw [e] at hb
        have := (r.mu i b hb).1; omega
    mu := fun i b hi => by
      obtain ⟨h1, h2⟩ := hmu i b hi
      exact ⟨h1, (r.mu _ b h2).2⟩
    kap := fun t => rfl
    kn := fun t len ht => by
      rcases Nat.lt_or_ge t s'.nk with hlt | hge
      · exact hlt
      · rw [h.kn t hge] at ht; cases ht
    tok := fun t b cap sz ht => by
      have ht : (if t < min s.nk s'.nk then X.τ t else none) = some (b, cap, sz) := ht
      split at ht
      · rename_i hlt
        obtain ⟨len, T, cs, h1, h2, h3, h4, h5, h6, h7⟩ := r.tok t b cap sz ht
        refine ⟨len, T, cs, (h.k t hlt).trans h1, h2, h3, h4, h5, h6, ?_⟩
        show (match X.own b with | some (Sum.inl j) => some (Sum.inl (backOf mv j)) | o => o) = _
        rw [h7]
      · cases ht }

theorem Wk.rel {mv : List (Nat × Nat)} {s s' : St} (h : Wk mv s s') {a : Act} {X : Cx} (r : Rel s a X) {nx nk : Nat} (hx : nx ≤ s'.nx) (hn : nk ≤ s.nk) (hn' : nk ≤ s'.nk) (hmv : ∀ i, i < nx → mvT mv i = none) : ∃ Y : Cx, Y.w = X.w ∧ Rel s' a Y ∧ FrB nx nk X Y := by
  obtain ⟨Y, h1, h2, h3, _⟩ := h.rel' r hx hn hn' hmv
  exact ⟨Y, h1, h2, h3⟩

/-! ### Values that stand for no less -/
variable {mv : List (Nat × Nat)} {s s' : St}
theorem Wv.any (v : AV) : Wv mv s s' v .any := fun _ _ _ _ _ _ => .any ..
theorem Wv.same {v : AV} (h : keepV mv s'.nx (min s.nk s'.nk) v = true) : Wv mv s s' v v := fun hk X h1 _ _ r => Rep.cut hk h1 r (keepV_both h).1 (keepV_both h).2
theorem Wv.int {k : IntKind} {n m : Int} (h : n = m) : Wv mv s s' (.int k n) (.int k m) := by subst h; intro _ X _ _ cv r; cases r; exact .int ..
theorem Wv.bool {n m : Bool} (h : n = m) : Wv mv s s' (.bool n) (.bool m) := by subst h; intro _ X _ _ cv r; cases r; exact .bool ..
theorem Wv.str {n m : List UInt8} (h : n = m) : Wv mv s s' (.str n) (.str m) := by subst h; intro _ X _ _ cv r; cases r; exact .str ..
theorem Wv.hs {i lo n sz lo' n' : Nat} {cap : Option Nat} (hi : keepV mv s'.nx (min s.nk s'.nk) (.hs i lo n sz cap) = true) (h1 : lo = lo') (h2 : n = n') : Wv mv s s' (.hs i lo n sz cap) (.hs i lo' n' sz cap) := by
  subst h1; subst h2; exact Wv.same hi
theorem WvL.same {l : List AV} (h : keepL mv s'.nx (min s.nk s'.nk) l = true) : WvL mv s s' l l := fun hk X h1 _ _ r => RepL.cut hk h1 r (keepL_both h).1 (keepL_both h).2
theorem WvL.nil : WvL mv s s' [] [] := fun _ _ _ _ _ r => by cases r; exact .nil
theorem WvL.cons {v v' : AV} {l l' : List AV} (h : Wv mv s s' v v') (k : WvL mv s s' l l') : WvL mv s s' (v :: l) (v' :: l') := fun hk X h1 h2 _ r => by
  cases r with | cons r rs => exact .cons (h hk X h1 h2 _ r) (k hk X h1 h2 _ rs)
theorem Wv.agg {l l' : List AV} (h : WvL mv s s' l l') : Wv mv s s' (.agg l) (.agg l') := fun hk X h1 h2 cv r => by
  cases r with | agg r => exact .agg (h hk X h1 h2 _ r)
theorem Wv.tup {l l' : List AV} (h : WvL mv s s' l l') : Wv mv s s' (.tup l) (.tup l') := fun hk X h1 h2 cv r => by
  cases r with | tup r => exact .tup (h hk X h1 h2 _ r)
/-- a row by its new name -/
theorem Wv.moved {i j lo n sz lo' n' : Nat} {cap : Option Nat} (ht : mvT mv i = some j) (hi : Nat.blt i s'.nx = true) (h1 : lo = lo') (h2 : n = n') : Wv mv s s' (.hs j lo n sz cap) (.hs i lo' n' sz none) := by
  subst h1; subst h2
  intro hk X k1 k2 cv r
  have e : srcOf mv i = j := by unfold srcOf; rw [ht]
  cases r with
  | hs0 _ _ _ _ hz hc => exact .hs0 _ _ _ _ hz (fun c h => by cases h)
  | hs _ _ _ _ capc o h hl hz hn hc ho hbs =>
    refine .hs _ _ _ _ capc o ?_ hl hz hn (fun c h => by cases h) ho hbs
    show (if _ then _ else _) = _
    rw [if_pos (by simpa [Nat.blt_eq] using hi), e]; exact h
/-- a row that is known less of -/
theorem Wv.less {i lo n sz lo' n' : Nat} {cap : Option Nat} (hi : keepV mv s'.nx (min s.nk s'.nk) (.hs i lo n sz cap) = true) (h1 : lo = lo') (h2 : n = n') : Wv mv s s' (.hs i lo n sz cap) (.hs i lo' n' sz none) := by
  subst h1; subst h2
  intro hk X k1 k2 cv r
  have := Rep.cut hk k1 r (keepV_both hi).1 (keepV_both hi).2
  cases this with
  | hs0 _ _ _ _ hz hc => exact .hs0 _ _ _ _ hz (fun c h => by cases h)
  | hs _ _ _ _ capc o h hl hz hn hc ho hbs => exact .hs _ _ _ _ capc o h hl hz hn (fun c h => by cases h) ho hbs
/-- no elements: a row of one's own that holds nothing -/
theorem Wv.none {tag : Tag} {n i lo sz : Nat} {f : Nat → AV} (hn : n = 0) (hz : 0 < sz) (ht : tag = .nil) : Wv mv s s' (.sl tag n f) (.hs i lo 0 sz none) := by
  subst hn
  intro hk X k1 k2 cv r
  cases r with
  | snil f A h hn => rw [hn ht]; exact .hs0 _ _ _ _ hz (fun c h => by cases h)
  | sl b o cap sz' g hz' hc hr hg ha h => subst ht; exact h.elim
/-- May a slice of the one tag be taken as one of the other? -/
def wtag (s s' : St) (n : Nat) : Tag → Tag → Prop
  | _, .no => True
  | .nil, .nil => True
  | .nil, .tight => True
  | .nil, .tok t => s.nk ≤ t ∧ ∃ T, s'.k t = some (n, T)
  | .tight, .tight => True
  | .tight, .tok t => s.nk ≤ t ∧ ∃ T, s'.k t = some (n, T)
  | .tok t, .tok t' => t = t' ∧ t < min s.nk s'.nk
  | _, _ => False
theorem Wv.sl {tag tag' : Tag} {n n' : Nat} {f f' : Nat → AV} (hn : n = n') (hf : ∀ i, i < n' → f i = f' i) (ht : wtag s s' n' tag tag') : Wv mv s s' (.sl tag n f) (.sl tag' n' f') := by
  subst hn
  intro hk X h1 h2 cv r
  cases r with
  | snil f A h hn =>
    refine .snil f' A ?_ (by
      intro e; subst e
      cases tag <;> first | exact hn rfl | exact ht.elim)
    cases tag' with
    | no => trivial
    | nil => trivial
    | tight => trivial
    | tok t' =>
      cases tag with
      | no => exact ht.elim
      | nil =>
        obtain ⟨h0, U, h3⟩ := ht
        refine ⟨rfl, 0, U, h3, fun _ => ?_⟩
        show (if _ then _ else _) = _
        rw [if_neg]
        omega
      | tight =>
        obtain ⟨h0, U, h3⟩ := ht
        refine ⟨rfl, 0, U, h3, fun _ => ?_⟩
        show (if _ then _ else _) = _
        rw [if_neg]
        omega
      | tok t => obtain ⟨e, h3⟩ := ht; subst e; exact TagNil.cut hk h1 (by exact h3) h
  | sl b o cap sz g hz hc hr hg ha h =>
    refine .sl b o cap sz g hz hc (fun i hi => ?_) hg ha ?_
    · rw [← hf i hi]; exact RepL.pmono (cut_ext _ _ _ _ _) rfl (hr i hi)
    · cases tag' with
      | no => trivial
      | nil => cases tag with
        | nil => exact h.elim
        | _ => exact ht.elim
      | tight => cases tag with
        | tight => exact h
        | nil => exact h.elim
        | _ => exact ht.elim
      | tok t' =>
        cases tag with
        | no => exact ht.elim
        | nil => exact h.elim
        | tight =>
          obtain ⟨h0, U, h3⟩ := ht
          refine ⟨rfl, n, U, h3, Nat.le_refl _, fun _ => .inr ⟨h, ?_⟩⟩
          show (if _ then _ else _) = _
          rw [if_neg]
          omega
        | tok t => obtain ⟨e, h3⟩ := ht; subst e; exact TagOk.cut hk h1 (by exact h3) h

/-! ### Loops -/
/-- what a round leaves is a state of the family again, nearer to its end -/
structure Again {σ : Type} (I : σ → Prop) (S : σ → St) (m : σ → Nat) (nx nk : Nat) (x : σ) (s : St) : Prop where
  ex : ∃ y mv, I y ∧ m y < m x ∧ nk ≤ s.nk ∧ Wk mv s (S y) ∧ ∀ i, i < nx → mvT mv i = none

mutual
/-- the same tree, laid out -/
def TT.lay {α : Sort _} : TT → (TT → α) → α
  | .leaf, k => k .leaf
  | .node l v r, k => TT.lay l fun l' => force v fun v' => TT.lay r fun r' => k (.node l' v' r')
end
theorem TT.lay_eq {α : Sort _} : ∀ (t : TT) (k : TT → α), TT.lay t k = k t
  | .leaf, _ => rfl
  | .node l v r, k => by rw [TT.lay, TT.lay_eq l, force_eq, TT.lay_eq r]
def St.lay {α : Sort _} (s : St) (K : St → α) : α :=
  match s with
  | ⟨n, t, h, nx, k, nk⟩ => TT.lay t fun t' => K ⟨n, t', h, nx, k, nk⟩
theorem St.lay_eq {α : Sort _} (s : St) (K : St → α) : s.lay K = K s := by
  cases s; exact TT.lay_eq _ _

theorem loop_rule {P : Program} {E : Env} (hE : EnvOk P E) (hm : P.follows .mixedOrders = true) {b : Code} {s : St} {Q : Exit → St → Prop} {σ : Type} (I : σ → Prop) (S : σ → St) (m : σ → Nat) (x0 : σ) (hI : I x0) (mv : List (Nat × Nat)) (hmv : ∀ i, i < s.nx → mvT mv i = none) (h0 : Wk mv s (S x0)) (hx : ∀ x, s.nx ≤ (S x).nx) (hn : ∀ x, s.nk ≤ (S x).nk)
    (round : ∀ x, I x → (S x).lay fun s1 => vc P E b s1 fun e s' => match e with | .normal => Again I S m s.nx s1.nk x s' | e => Q e s') : SemC P E.G (.loop b) s Q := by
  intro a X hgb r
  refine wp_mono (wp_loop_ghost (Q := fun e a' w' => ∃ s' Y, Y.w = w' ∧ Q e s' ∧ Rel s' a' Y ∧ FrB s.nx s.nk X Y) (fun n a w => ∃ x Y, I x ∧ m x = n ∧ Y.w = w ∧ Rel (S x) a Y ∧ FrB s.nx s.nk X Y ∧ GB E.G Y) (m x0) ?_ ?_) ?_
  · obtain ⟨Y, h1, h2, h3⟩ := h0.rel r (hx x0) (Nat.le_refl _) (hn x0) hmv
    exact ⟨x0, Y, hI, rfl, h1, h2, h3, h3.gb hgb⟩
  · rintro n a w ⟨x, Y, hx', rfl, rfl, hr, hf, hg⟩
    have := round x hx'
    rw [St.lay_eq] at this
    refine wp_mono (vc_sound hE hm b this _ Y hg hr) ?_
    rintro e a' w' ⟨s', Z, rfl, hq, hr', hf'⟩
    cases e with
    | normal =>
      obtain ⟨y, mv', hy, hlt, hk, hw, hmv'⟩ := hq.ex
      obtain ⟨V, h1, h2, h3⟩ := hw.rel hr' (hx y) (Nat.le_trans (hn x) hk) (hn y) hmv'
      exact ⟨m y, hlt, y, V, hy, rfl, h1, h2, hf.trans ((FrB.of hf' _ _).trans h3), h3.gb (hf'.gb hg)⟩
    | _ => exact ⟨s', Z, rfl, hq, hr', hf.trans (.of hf' _ _)⟩
  · rintro e a' w' ⟨s', Y, h1, h2, h3, h4⟩
    exact ⟨s', Y, h1, h2, h3, h4.fr r⟩

/-- WHAT A FUNCTION THAT TURNS MEMORY MUST LEAVE: this answer, this memory, nothing else kept. -/
structure Left (m : St) (r : AV) (m' : St) (v : AV) (u : St) : Prop where
  n : m.nk ≤ u.nk
  e : ∃ mv, (∀ i, i < m.nx → mvT mv i = none) ∧ Wv mv u m' v r ∧ Wk mv u m'
theorem hc_of {P : Program} {E : Env} (hE : EnvOk P E) (hm : P.follows .mixedOrders = true) {f : FuncId} {fn : Func} (hf : P.funcs[f]? = some fn) {args : List AV} {m m' : St} {r : AV} (hx : m.nx ≤ m'.nx) (hn : m.nk ≤ m'.nk)
    (h : fnVCH P E fn args m (Left m r m')) : HC P E.G f args m r m' := by
  intro X cargs hgb hr ha
  refine (hc_gen hE hm hf h hgb hr ha).mono ?_
  rintro e w' ⟨cv, Y, v, s', rfl, rfl, hl, hv, ⟨a', hr'⟩, hfr⟩
  have hrm : Rel s'.mem ⟨#[], []⟩ Y := { size := rfl, dfr := rfl, tmps := fun t => by show Rep Y false (TT.leaf.get t) _; rw [TT.get_leaf]; exact .any .., heap := hr'.heap, ow := hr'.ow, mu := hr'.mu, kap := hr'.kap, kn := hr'.kn, tok := hr'.tok }
  have hτ : ∀ t, s'.mem.nk ≤ t → Y.τ t = none := fun t ht => by
    cases e : Y.τ t with
    | none => rfl
    | some x =>
      obtain ⟨b, cap, sz⟩ := x
      obtain ⟨len, _, _, h1, _⟩ := hr'.tok t b cap sz e
      have := hr'.kn t _ h1
      have ht : s'.nk ≤ t := ht
      omega
  obtain ⟨mv, hmv, hlv, hlk⟩ := hl.e
  obtain ⟨Z, hw, h1, h2, hZ⟩ := hlk.rel' hrm hx hl.n hn hmv
  subst hZ
  refine ⟨cv, Y.cut m'.nx (min s'.mem.nk m'.nk) m'.k mv, rfl, rfl, ⟨h1.heap, h1.ow, h1.mu, h1.kap, h1.kn, h1.tok⟩, hlv hlk.k Y hrm.kap hτ cv hv, ?_⟩
  have h3 := (FrB.of hfr m.nx m.nk).trans h2
  exact ⟨h3.os, h3.tape, h3.output, h3.size, h3.blk, h3.ext.ext2 (s := m.mem) hr.rel⟩

/-! ### Families of states -/
def TT.puts : TT → List (Nat × AV) → TT
  | t, [] => t
  | t, (i, v) :: l => TT.puts (t.set i v) l
def hOf : List (Nat × Blk) → Nat → Option Blk
  | [], _ => none
  | (i, b) :: l, j => match Nat.beq i j with
    | true => some b
    | false => hOf l j
def kOf : List (Nat × Nat × Nat) → Nat → Option (Nat × Nat)
  | [], _ => none
  | (i, b) :: l, j => match Nat.beq i j with
    | true => some b
    | false => kOf l j
def keeps (s : St) : List Nat → List (Nat × AV)
  | [] => []
  | i :: l => (i, s.t.get i) :: keeps s l
def keepB (s : St) : List Nat → List (Nat × Blk)
  | [] => []
  | i :: l => match s.h i with
    | some b => (i, b) :: keepB s l
    | none => keepB s l
def St.mk' (n nx nk : Nat) (l : List (Nat × AV)) (hb : List (Nat × Blk)) (toks : List (Nat × Nat × Nat)) : St := ⟨n, TT.puts .leaf l, hOf hb, nx, kOf toks, nk⟩
def oblT (mv : List (Nat × Nat)) (s s' : St) : List (Nat × AV) → Prop
  | [] => True
  | (i, v) :: l => force (s.t.get i) fun v0 => force v fun v1 => BR True True (Wv mv s s' v0 v1) (oblT mv s s' l)
def oblH (mv : List (Nat × Nat)) (s s' : St) : List (Nat × Blk) → Prop
  | [] => True
  | (i, b) :: l => BR True True (i < s'.nx ∧ WvH mv s s' i b) (oblH mv s s' l)
def oblK (k k' : Nat → Option (Nat × Nat)) : Nat → Prop
  | 0 => True
  | n + 1 => BR True True (k' n = k n) (oblK k k' n)
def toksOk (nk : Nat) : List (Nat × Nat × Nat) → Bool
  | [] => true
  | (i, _) :: l => match Nat.blt i nk with
    | true => toksOk nk l
    | false => false
theorem puts_get : ∀ {l : List (Nat × AV)} {t : TT} {i : Nat}, (TT.puts t l).get i = t.get i ∨ ∃ v, (i, v) ∈ l ∧ (TT.puts t l).get i = v
  | [], t, i => .inl rfl
  | (j, v) :: l, t, i => by
    rcases puts_get (l := l) (t := t.set j v) (i := i) with h | ⟨w, h1, h2⟩
    · by_cases e : i = j
      · subst e; exact .inr ⟨v, by simp, h.trans (TT.set_same ..)⟩
      · exact .inl (h.trans (TT.set_ne _ _ e))
    · exact .inr ⟨w, by simp [h1], h2⟩
theorem oblT_mem {l : List (Nat × AV)} (h : oblT mv s s' l) : ∀ {i v}, (i, v) ∈ l → Wv mv s s' (s.t.get i) v := by
  induction l with
  | nil => intro i v hm; cases hm
  | cons p l ih =>
    intro i v hm
    simp only [oblT, force_eq] at h
    cases hm with
    | head => exact h.t trivial
    | tail _ hm => exact ih (h.f trivial) hm
theorem hOf_mem {l : List (Nat × Blk)} {i : Nat} {b : Blk} (h : hOf l i = some b) : (i, b) ∈ l := by
  induction l with
  | nil => cases h
  | cons p l ih =>
    obtain ⟨j, c⟩ := p
    simp only [hOf] at h
    cases hb : Nat.beq j i with
    | true => rw [hb] at h; have := Nat.eq_of_beq_eq_true hb; simp only [Option.some.injEq] at h; subst this; subst h; simp
    | false => rw [hb] at h; exact List.mem_cons_of_mem _ (ih h)
theorem oblH_mem {l : List (Nat × Blk)} (h : oblH mv s s' l) : ∀ {i b}, (i, b) ∈ l → i < s'.nx ∧ WvH mv s s' i b := by
  induction l with
  | nil => intro i v hm; cases hm
  | cons p l ih =>
    intro i v hm
    cases hm with
    | head => exact h.t trivial
    | tail _ hm => exact ih (h.f trivial) hm
theorem oblK_lt {k k' : Nat → Option (Nat × Nat)} : ∀ {n : Nat}, oblK k k' n → ∀ t, t < n → k' t = k t
  | 0, _, t, h => absurd h (Nat.not_lt_zero _)
  | n + 1, h, t, ht => by
    rcases Nat.lt_succ_iff_lt_or_eq.1 ht with hlt | rfl
    · exact oblK_lt (h.f trivial) t hlt
    · exact h.t trivial
theorem kOf_none {nk : Nat} : ∀ {l : List (Nat × Nat × Nat)}, toksOk nk l = true → ∀ t, nk ≤ t → kOf l t = none
  | [], _, _, _ => rfl
  | (i, b) :: l, h, t, ht => by
    simp only [toksOk] at h
    split at h
    · rename_i hb
      rw [Nat.blt_eq] at hb
      simp only [kOf]
      rw [beq_false (show i ≠ t by omega)]
      exact kOf_none h t ht
    · cases h
theorem Wk.mk' {mv : List (Nat × Nat)} {s : St} {n nx nk : Nat} {l : List (Nat × AV)} {hb : List (Nat × Blk)} {toks : List (Nat × Nat × Nat)} (h1 : s.n = n) (htok : toksOk nk toks = true)
    (hk : oblK s.k (kOf toks) (min s.nk nk)) (ht : oblT mv s (St.mk' n nx nk l hb toks) l) (hh : oblH mv s (St.mk' n nx nk l hb toks) hb) : Wk mv s (St.mk' n nx nk l hb toks) where
  n := h1
  k := fun t ht => oblK_lt hk t ht
  kn := fun t ht => kOf_none htok t ht
  t := fun i => by
    rcases puts_get (l := l) (t := .leaf) (i := i) with h | ⟨v, h2, h3⟩
    · show Wv _ _ _ _ ((TT.puts .leaf l).get i)
      rw [h, TT.get_leaf]; exact Wv.any _
    · show Wv _ _ _ _ ((TT.puts .leaf l).get i)
      rw [h3]; exact oblT_mem ht h2
  h := fun i b' hi => oblH_mem hh (hOf_mem hi)

def mvOk (nx : Nat) : List (Nat × Nat) → Bool
  | [] => true
  | (i, _) :: l => match Nat.ble nx i with
    | true => mvOk nx l
    | false => false
theorem mvOk_none {nx : Nat} : ∀ {l : List (Nat × Nat)}, mvOk nx l = true → ∀ i, i < nx → mvT l i = none
  | [], _, _, _ => rfl
  | (k, j) :: l, h, i, hi => by
    simp only [mvOk] at h
    split at h
    · rename_i hb
      rw [Nat.ble_eq] at hb
      simp only [mvT]
      rw [beq_false (show k ≠ i by omega)]
      exact mvOk_none h i hi
    · cases h
/-- A LOOP: what is kept of the state ahead of it; slots, blocks and owners that turn; a measure. nx: how many blocks there are within (nx0: ahead of it); nk: how many owners within; mv: blocks that get other names at its head. -/
theorem loop_famM {P : Program} {E : Env} (hE : EnvOk P E) (hm : P.follows .mixedOrders = true) {b : Code} {s : St} {Q : Exit → St → Prop} {σ : Type} (I : σ → Prop) (m : σ → Nat) (x0 : σ) (hI : I x0)
    (nx0 nx nk : Nat) (mv : List (Nat × Nat)) (keep : List Nat) (vals : σ → List (Nat × AV)) (kb : List Nat) (blks : σ → List (Nat × Blk)) (toks : σ → List (Nat × Nat × Nat)) (hx0 : s.nx = nx0) (hx : Nat.ble nx0 nx = true) (hn : Nat.ble s.nk nk = true) (hmv : mvOk nx0 mv = true)
    (h0 : Wk mv s (St.mk' s.n nx nk (keeps s keep ++ vals x0) (keepB s kb ++ blks x0) (toks x0)))
    (round : ∀ x, I x → (St.mk' s.n nx nk (keeps s keep ++ vals x) (keepB s kb ++ blks x) (toks x)).lay fun s1 => vc P E b s1 fun e s' => match e with
      | .normal => Again I (fun x => St.mk' s.n nx nk (keeps s keep ++ vals x) (keepB s kb ++ blks x) (toks x)) m nx0 nk x s' | e => Q e s') : LoopVC P E.G b s Q := by
  subst hx0
  refine ⟨loop_rule hE hm I (fun x => St.mk' s.n nx nk (keeps s keep ++ vals x) (keepB s kb ++ blks x) (toks x)) m x0 hI mv (mvOk_none hmv) h0 (fun _ => Nat.le_of_ble_eq_true hx) (fun _ => Nat.le_of_ble_eq_true hn) fun x hx => ?_⟩
  have := round x hx
  rw [St.lay_eq] at this ⊢
  exact this
theorem loop_fam {P : Program} {E : Env} (hE : EnvOk P E) (hm : P.follows .mixedOrders = true) {b : Code} {s : St} {Q : Exit → St → Prop} {σ : Type} (I : σ → Prop) (m : σ → Nat) (x0 : σ) (hI : I x0)
    (nx nk : Nat) (keep : List Nat) (vals : σ → List (Nat × AV)) (kb : List Nat) (blks : σ → List (Nat × Blk)) (toks : σ → List (Nat × Nat × Nat)) (hx : s.nx = nx) (hn : Nat.ble s.nk nk = true)
    (h0 : Wk [] s (St.mk' s.n nx nk (keeps s keep ++ vals x0) (keepB s kb ++ blks x0) (toks x0)))
    (round : ∀ x, I x → (St.mk' s.n nx nk (keeps s keep ++ vals x) (keepB s kb ++ blks x) (toks x)).lay fun s1 => vc P E b s1 fun e s' => match e with
      | .normal => Again I (fun x => St.mk' s.n nx nk (keeps s keep ++ vals x) (keepB s kb ++ blks x) (toks x)) m nx nk x s' | e => Q e s') : LoopVC P E.G b s Q :=
  loop_famM hE hm I m x0 hI nx nx nk [] keep vals kb blks toks hx (by rw [Nat.ble_eq]; exact Nat.le_refl _) hn rfl h0 round
theorem Again.famM {σ : Type} {I : σ → Prop} {m : σ → Nat} {n nx0 nx nk : Nat} {l : σ → List (Nat × AV)} {hb : σ → List (Nat × Blk)} {toks : σ → List (Nat × Nat × Nat)} {x : σ} {s : St} (y : σ) (mv : List (Nat × Nat)) (hI : I y) (hm : m y < m x)
    (hn : Nat.ble nk s.nk = true) (h1 : s.n = n) (hmv : mvOk nx0 mv = true) (htok : toksOk nk (toks y) = true) (hk : oblK s.k (kOf (toks y)) (min s.nk nk))
    (ht : oblT mv s (St.mk' n nx nk (l y) (hb y) (toks y)) (l y)) (hh : oblH mv s (St.mk' n nx nk (l y) (hb y) (toks y)) (hb y)) : Again I (fun x => St.mk' n nx nk (l x) (hb x) (toks x)) m nx0 nk x s :=
  ⟨y, mv, hI, hm, Nat.le_of_ble_eq_true hn, Wk.mk' h1 htok hk ht hh, mvOk_none hmv⟩
theorem Again.fam {σ : Type} {I : σ → Prop} {m : σ → Nat} {n nx0 nx nk : Nat} {l : σ → List (Nat × AV)} {hb : σ → List (Nat × Blk)} {toks : σ → List (Nat × Nat × Nat)} {x : σ} {s : St} (y : σ) (hI : I y) (hm : m y < m x)
    (hn : Nat.ble nk s.nk = true) (h1 : s.n = n) (hnx : Nat.ble nx s.nx = true) (htok : toksOk nk (toks y) = true) (hk : oblK s.k (kOf (toks y)) (min s.nk nk))
    (ht : oblT [] s (St.mk' n nx nk (l y) (hb y) (toks y)) (l y)) (hh : oblH [] s (St.mk' n nx nk (l y) (hb y) (toks y)) (hb y)) : Again I (fun x => St.mk' n nx nk (l x) (hb x) (toks x)) m nx0 nk x s :=
  ⟨y, [], hI, hm, Nat.le_of_ble_eq_true hn, Wk.mk' h1 htok hk ht hh, fun _ _ => rfl⟩

/-- A LOOP of few rounds: one after the other. -/
def unr (P : Program) (E : Env) (b : Code) (Q : Exit → St → Prop) : Nat → St → Prop
  | 0, _ => False
  | n + 1, s => vc P E b s fun e s' => match e with
    | .normal => unr P E b Q n s'
    | e => Q e s'
theorem loop_unroll {P : Program} {E : Env} (hE : EnvOk P E) (hm : P.follows .mixedOrders = true) {b : Code} {s : St} {Q : Exit → St → Prop} (n : Nat) (h : unr P E b Q n s) : LoopVC P E.G b s Q := by
  refine ⟨fun a X hgb r => ?_⟩
  refine wp_loop_ghost (fun k a w => ∃ s' Y, Y.w = w ∧ unr P E b Q k s' ∧ Rel s' a Y ∧ Fr X Y ∧ GB E.G Y) n ⟨s, X, rfl, h, r, Fr.refl X, hgb⟩ ?_
  rintro k a w ⟨s', Y, rfl, hu, hr, hf, hg⟩
  cases k with
  | zero => exact hu.elim
  | succ k =>
    refine wp_mono (vc_sound hE hm b hu _ Y hg hr) ?_
    rintro e a' w' ⟨s2, Z, rfl, hq, hr', hf'⟩
    cases e with
    | normal => exact ⟨k, Nat.lt_succ_self _, s2, Z, rfl, hq, hr', hf.trans hf', hf'.gb hg⟩
    | _ => exact ⟨s2, Z, rfl, hq, hr', hf.trans hf'⟩
end Go.Ab
