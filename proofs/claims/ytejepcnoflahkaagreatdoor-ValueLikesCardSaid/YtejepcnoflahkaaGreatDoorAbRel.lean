/- The symbolic evaluator: abstract states, what they say of a frame and a world. -/
import Derived.Test.YtejepcnoflahkaaGreatDoorAbBase
namespace Go.Ab

def upd {α : Type} (f : Nat → α) (i : Nat) (v : α) : Nat → α := fun j => cond (Nat.beq j i) v (f j)
theorem upd_same {α : Type} (f : Nat → α) (i : Nat) (v : α) : upd f i v i = v := by simp [upd]
theorem upd_ne {α : Type} (f : Nat → α) {i j : Nat} (v : α) (h : j ≠ i) : upd f i v j = f j := by
  have : Nat.beq j i = false := by
    cases hb : Nat.beq j i with
    | false => rfl
    | true => exact absurd (Nat.eq_of_beq_eq_true hb) h
  simp [upd, this]

/-- The slots of a frame: a binary tree, its ends hold whatever. -/
inductive TT where
  | leaf
  | node (l : TT) (v : AV) (r : TT)
def TT.get : TT → Nat → AV
  | .leaf, _ => .any
  | .node _ v _, 0 => v
  | .node l _ r, n + 1 => match Nat.beq (n % 2) 0 with
    | true => l.get (n / 2)
    | false => r.get (n / 2)
def TT.setF : Nat → TT → Nat → AV → TT
  | 0, t, _, _ => t
  | f + 1, t, i, v => match t with
    | .leaf => match i with
      | 0 => .node .leaf v .leaf
      | n + 1 => match Nat.beq (n % 2) 0 with
        | true => .node (TT.setF f .leaf (n / 2) v) .any .leaf
        | false => .node .leaf .any (TT.setF f .leaf (n / 2) v)
    | .node l x r => match i with
      | 0 => .node l v r
      | n + 1 => match Nat.beq (n % 2) 0 with
        | true => .node (TT.setF f l (n / 2) v) x r
        | false => .node l x (TT.setF f r (n / 2) v)
def TT.set (t : TT) (i : Nat) (v : AV) : TT := TT.setF (i + 1) t i v
theorem beq_false {a b : Nat} (h : a ≠ b) : Nat.beq a b = false := by
  cases hb : Nat.beq a b with
  | false => rfl
  | true => exact absurd (Nat.eq_of_beq_eq_true hb) h
theorem TT.get_leaf (i : Nat) : TT.leaf.get i = .any := by cases i <;> rfl
theorem TT.setF_same (v : AV) : ∀ (f : Nat) (t : TT) (i : Nat), i < f → (TT.setF f t i v).get i = v := by
  intro f
  induction f with
  | zero => intro t i h; omega
  | succ f ih =>
    intro t i h
    cases t <;> cases i with
    | zero => rfl
    | succ n =>
      simp only [TT.setF]
      cases hb : Nat.beq (n % 2) 0 <;> simp only [TT.get, hb] <;> exact ih _ _ (by omega)
theorem TT.setF_ne (v : AV) : ∀ (f : Nat) (t : TT) (i j : Nat), i ≠ j → (TT.setF f t i v).get j = t.get j := by
  intro f
  induction f with
  | zero => intro t i j h; rfl
  | succ f ih =>
    intro t i j h
    cases t with
    | leaf =>
      cases i with
      | zero => cases j with
        | zero => exact absurd rfl h
        | succ m => simp only [TT.setF, TT.get]; cases hb : Nat.beq (m % 2) 0 <;> exact TT.get_leaf (m / 2)
      | succ n =>
        simp only [TT.setF]
        cases hn : Nat.beq (n % 2) 0 <;> cases j with
        | zero => rfl
        | succ m =>
          simp only [TT.get]
          cases hm : Nat.beq (m % 2) 0 <;> simp only [] <;> first | exact TT.get_leaf (m / 2) | exact (ih _ _ _ (by first | (have := Nat.ne_of_beq_eq_false hn; have := Nat.ne_of_beq_eq_false hm; omega) | (have := Nat.eq_of_beq_eq_true hn; have := Nat.eq_of_beq_eq_true hm; omega))).trans (TT.get_leaf _)
    | node l x r =>
      cases i with
      | zero => cases j with
        | zero => exact absurd rfl h
        | succ m => rfl
      | succ n =>
        simp only [TT.setF]
        cases hn : Nat.beq (n % 2) 0 <;> cases j with
        | zero => rfl
        | succ m =>
          simp only [TT.get]
          cases hm : Nat.beq (m % 2) 0 <;> simp only [] <;> exact ih _ _ _ (by first | (have := Nat.ne_of_beq_eq_false hn; have := Nat.ne_of_beq_eq_false hm; omega) | (have := Nat.eq_of_beq_eq_true hn; have := Nat.eq_of_beq_eq_true hm; omega))
theorem TT.set_same (t : TT) (i : Nat) (v : AV) : (t.set i v).get i = v := TT.setF_same v _ _ _ (Nat.lt_succ_self _)
theorem TT.set_ne (t : TT) {i j : Nat} (v : AV) (h : j ≠ i) : (t.set i v).get j = t.get j := TT.setF_ne v _ _ _ _ (fun e => h e.symm)

inductive Blk where
  | cells (cs : List AV)
  | tcells (T : Nat) (cs : List AV)
  | map (es : List (AV × AV))
  | arr (T sz n : Nat) (f : Nat → AV)
  | siter (s : List UInt8) (p : Nat)

structure St where
  n : Nat
  t : TT
  h : Nat → Option Blk
  nx : Nat
  k : Nat → Option (Nat × Nat)
  nk : Nat

def St.put (s : St) (d : Option Nat) (v : AV) : St :=
  match s with
  | ⟨n, t, h, nx, k, nk⟩ => match d with
    | some d => ⟨n, t.set d v, h, nx, k, nk⟩
    | none => ⟨n, t, h, nx, k, nk⟩
def dstOk (s : St) (d : Option Nat) : Bool :=
  match d with
  | some d => Nat.blt d s.n
  | none => true

def BlkRel (X : Cx) (b : Nat) : Blk → Prop
  | .cells cs => ∃ vs T, X.w.heap[b]? = some (.cells (List.toArray vs) T (0, 0)) ∧ RepL X false cs vs
  | .tcells T cs => ∃ vs, X.w.heap[b]? = some (.cells (List.toArray vs) T (0, 0)) ∧ RepL X false cs vs
  | .map es => ∃ (ces : List MapEntry) (clk : Nat), X.w.heap[b]? = some (.map ces.toArray clk) ∧
      RepL X false (es.map (·.1)) (ces.map (·.key)) ∧ RepL X false (es.map (·.2)) (ces.map (·.val)) ∧
      (ces.map (·.born)).Pairwise (· < ·) ∧ ∀ e ∈ ces, e.born < clk
  | .arr T sz n f => ∃ vs fr, X.w.heap[b]? = some (.cells (List.toArray vs) T fr) ∧ (fr.2 ≤ fr.1 ∨ vs.length ≤ fr.1) ∧ 0 < sz ∧ n * sz ≤ vs.length ∧ vs.length = X.bs b ∧
      ∀ j, j < n → RepL X false (f j).cells ((vs.drop (j * sz)).take sz)
  | .siter s p => X.w.heap[b]? = some (.stringIter ⟨s.toArray⟩ p)

/-- A block of the code's own; of a row that holds nothing there may be none. -/
def BlkAt (X : Cx) (i : Nat) (blk : Blk) : Prop := (∃ b, X.μ i = some b ∧ BlkRel X b blk) ∨ (X.μ i = none ∧ ∃ T sz f, blk = .arr T sz 0 f)

structure Rel (s : St) (a : Act) (X : Cx) : Prop where
  size : a.tmps.size = s.n
  dfr : a.defers = []
  tmps : ∀ t, Rep X false (s.t.get t) (a.tmps.getD t undef)
  heap : ∀ i blk, s.h i = some blk → i < s.nx ∧ BlkAt X i blk
  ow : ∀ i blk b, s.h i = some blk → X.μ i = some b → X.own b = some (.inl i) ∧ X.L b = some 0
  mu : ∀ i b, X.μ i = some b → i < s.nx ∧ b < X.w.heap.size
  kap : ∀ t, X.κ t = s.k t
  kn : ∀ t len, s.k t = some len → t < s.nk
  tok : ∀ t b cap sz, X.τ t = some (b, cap, sz) → ∃ len T cs, s.k t = some (len, T) ∧ (0 < sz ∧ 0 < len) ∧ X.w.heap[b]? = some (.cells cs T (0, 0)) ∧
    cs.size = cap * sz ∧ len ≤ cap ∧ X.L b = some (len * sz) ∧ X.own b = some (.inr t)

/-- What a piece of code leaves alone: whatever has no owner. -/
structure Fr (X Y : Cx) : Prop where
  os : Y.w.os = X.w.os
  tape : Y.w.tape = X.w.tape
  output : Y.w.output = X.w.output
  size : X.w.heap.size ≤ Y.w.heap.size
  blk : ∀ b, b < X.w.heap.size → X.own b = none → Y.w.heap[b]? = X.w.heap[b]? ∧ Y.own b = none ∧ Y.L b = X.L b
  ext : Ext2 X Y

theorem Ext2.refl (X : Cx) : Ext2 X X := ⟨fun _ _ _ h => h, fun _ _ h => h, fun _ _ => rfl, Nat.le_refl _, fun _ _ h => h, fun _ _ _ _ _ _ _ h => h⟩
theorem Ext2.trans {X Y Z : Cx} (h : Ext2 X Y) (k : Ext2 Y Z) : Ext2 X Z :=
  ⟨fun b o v r => k.at_ b o v (h.at_ b o v r), fun i b r => k.mu i b (h.mu i b r), fun b r => (k.bs b (Nat.lt_of_lt_of_le r h.lt)).trans (h.bs b r), Nat.le_trans h.lt k.lt, fun p t r => k.nil p t (h.nil p t r), fun p t b o c z l r => k.tag p t b o c z l (h.tag p t b o c z l r)⟩
theorem Fr.refl (X : Cx) : Fr X X := ⟨rfl, rfl, rfl, Nat.le_refl _, fun _ _ h => ⟨rfl, h, rfl⟩, Ext2.refl X⟩
theorem Fr.trans {X Y Z : Cx} (h : Fr X Y) (k : Fr Y Z) : Fr X Z :=
  ⟨k.os.trans h.os, k.tape.trans h.tape, k.output.trans h.output, Nat.le_trans h.size k.size, fun b hb ho => by
    obtain ⟨h1, h2, h3⟩ := h.blk b hb ho
    obtain ⟨k1, k2, k3⟩ := k.blk b (Nat.lt_of_lt_of_le hb h.size) h2
    exact ⟨k1.trans h1, k2, k3.trans h3⟩, h.ext.trans k.ext⟩

/-- The world began as one of which G holds; nobody owns what was there. -/
def GB (G : World → Prop) (X : Cx) : Prop := ∃ w0 : World, G w0 ∧ RowKit.Below w0.heap.size w0 X.w ∧ ∀ b, b < w0.heap.size → X.own b = none
theorem Fr.gb {G : World → Prop} {X Y : Cx} (h : Fr X Y) : GB G X → GB G Y := by
  rintro ⟨w0, h1, h2, h3⟩
  refine ⟨w0, h1, ⟨h.os.trans h2.os, h.tape.trans h2.tape, h.output.trans h2.output, Nat.le_trans h2.size h.size, fun b hb => ?_⟩, fun b hb => ?_⟩
  · exact (h.blk b (Nat.lt_of_lt_of_le hb h2.size) (h3 b hb)).1.trans (h2.block b hb)
  · exact (h.blk b (Nat.lt_of_lt_of_le hb h2.size) (h3 b hb)).2.1
theorem GB.bare {G : World → Prop} {w : World} (h : G w) (L : Nat → Option Nat) : GB G (Cx.bare w L) := ⟨w, h, ⟨rfl, rfl, rfl, Nat.le_refl _, fun _ _ => rfl⟩, fun _ _ => rfl⟩

/-! ### The world, one step on -/
theorem cell_lt {w : World} {b o : Nat} {v : Value} (h : w.cell? ⟨b, o, none⟩ = some v) : b < w.heap.size := by
  have := World.block_lt_of_cell? w ⟨b, o, none⟩ h
  simpa using this
theorem cell_eq {w : World} {b o : Nat} {cs : Array Value} {T : TypeId} {fr : Nat × Nat} (h : w.heap[b]? = some (.cells cs T fr)) : w.cell? ⟨b, o, none⟩ = cs[o]? := by
  simp [World.cell?, h]
theorem cell_congr {w w' : World} {b o : Nat} (h : w'.heap[b]? = w.heap[b]?) : w'.cell? ⟨b, o, none⟩ = w.cell? ⟨b, o, none⟩ := by
  simp [World.cell?, h]
theorem push_lt {w : World} {o : Obj} {b : Nat} (h : b < w.heap.size) : ({ w with heap := w.heap.push o } : World).heap[b]? = w.heap[b]? := by
  simp only [Array.getElem?_push]
  rw [if_neg (by omega)]
theorem push_eq {w : World} {o : Obj} : ({ w with heap := w.heap.push o } : World).heap[w.heap.size]? = some o := by
  simp

theorem blk_lt {w : World} {b : Nat} {o : Obj} (h : w.heap[b]? = some o) : b < w.heap.size := (Array.getElem?_eq_some_iff.1 h).1

theorem BlkRel.lt {X : Cx} {b : Nat} {blk : Blk} (h : BlkRel X b blk) : b < X.w.heap.size := by
  cases blk with
  | cells cs => obtain ⟨vs, T, h1, _⟩ := h; exact blk_lt h1
  | tcells T cs => obtain ⟨vs, h1, _⟩ := h; exact blk_lt h1
  | map es => obtain ⟨ces, c, h1, _⟩ := h; exact blk_lt h1
  | arr T sz n f => obtain ⟨vs, _, h1, _⟩ := h; exact blk_lt h1
  | siter s p => exact blk_lt h

theorem BlkRel.mono {X Y : Cx} (e : Ext2 X Y) {b : Nat} {blk : Blk} (hb : Y.w.heap[b]? = X.w.heap[b]?) (hs : Y.bs b = X.bs b) (h : BlkRel X b blk) : BlkRel Y b blk := by
  cases blk with
  | cells cs => obtain ⟨vs, T, h1, h2⟩ := h; exact ⟨vs, T, hb.trans h1, h2.mono e⟩
  | tcells T cs => obtain ⟨vs, h1, h2⟩ := h; exact ⟨vs, hb.trans h1, h2.mono e⟩
  | map es => obtain ⟨ces, c, h1, h2, h3, h4, h5⟩ := h; exact ⟨ces, c, hb.trans h1, h2.mono e, h3.mono e, h4, h5⟩
  | arr T sz n f => obtain ⟨vs, fr, h1, h0, h2, h3, h4, h6⟩ := h; exact ⟨vs, fr, hb.trans h1, h0, h2, h3, h4.trans hs.symm, fun j hj => (h6 j hj).mono e⟩
  | siter s p => exact hb.trans h

/-! ### Moving from one context to the next where nothing that is owned has turned -/
structure Same (X Y : Cx) : Prop where
  os : Y.w.os = X.w.os
  tape : Y.w.tape = X.w.tape
  output : Y.w.output = X.w.output
  size : X.w.heap.size ≤ Y.w.heap.size
  blk : ∀ b, b < X.w.heap.size → Y.w.heap[b]? = X.w.heap[b]?
  L : ∀ b, b < X.w.heap.size → Y.L b = X.L b
  own : ∀ b, b < X.w.heap.size → Y.own b = X.own b
  bs : Y.bs = X.bs
  mu : Y.μ = X.μ
  tau : Y.τ = X.τ
  kappa : Y.κ = X.κ

theorem Same.ext {X Y : Cx} (h : Same X Y) : Ext X Y := fun b o v ⟨h1, h2⟩ => by
  have hb := cell_lt h1
  exact ⟨(cell_congr (h.blk b hb)).trans h1, fun n hn => h2 n ((h.L b hb).symm.trans hn)⟩
theorem Same.ext2 {X Y : Cx} (h : Same X Y) : Ext2 X Y where
  at_ := h.ext
  mu := fun i b hi => by rw [h.mu]; exact hi
  bs := fun b _ => by rw [h.bs]
  lt := h.size
  nil := fun p t ht => by
    cases t with
    | no => trivial
    | nil => trivial
    | tight => trivial
    | tok t => simpa only [TagNil, h.tau, h.kappa] using ht
  tag := fun p t b o cap sz len ht => by
    cases t with
    | no => trivial
    | nil => exact ht
    | tight => exact ht
    | tok t => simpa only [TagOk, h.tau, h.kappa] using ht
theorem Same.fr {X Y : Cx} (h : Same X Y) : Fr X Y :=
  ⟨h.os, h.tape, h.output, h.size, fun b hb ho => ⟨h.blk b hb, (h.own b hb).trans ho, h.L b hb⟩, h.ext2⟩
theorem Same.rel {s : St} {a : Act} {X Y : Cx} (h : Same X Y) (r : Rel s a X) : Rel s a Y where
  size := r.size
  dfr := r.dfr
  tmps := fun t => (r.tmps t).mono h.ext2
  heap := fun i blk hi => by
    obtain ⟨h1, h2⟩ := r.heap i blk hi
    refine ⟨h1, ?_⟩
    rcases h2 with ⟨b, h2, h3⟩ | ⟨h2, h3⟩
    · exact .inl ⟨b, by rw [h.mu]; exact h2, h3.mono h.ext2 (h.blk b h3.lt) (by rw [h.bs])⟩
    · exact .inr ⟨by rw [h.mu]; exact h2, h3⟩
  ow := fun i blk b hi hb => by
    rw [h.mu] at hb
    obtain ⟨h1, h2⟩ := r.ow i blk b hi hb
    have hl := (r.mu i b hb).2
    exact ⟨(h.own b hl).trans h1, (h.L b hl).trans h2⟩
  mu := fun i b hi => by
    rw [h.mu] at hi
    obtain ⟨h1, h2⟩ := r.mu i b hi
    exact ⟨h1, Nat.lt_of_lt_of_le h2 h.size⟩
  kap := fun t => by rw [h.kappa]; exact r.kap t
  kn := r.kn
  tok := fun t b cap sz ht => by
    rw [h.tau] at ht
    obtain ⟨len, T, cs, h1, h2, h3, h4, h5, h6, h7⟩ := r.tok t b cap sz ht
    have hb := blk_lt h3
    exact ⟨len, T, cs, h1, h2, (h.blk b hb).trans h3, h4, h5, (h.L b hb).trans h6, (h.own b hb).trans h7⟩

/-- A draw. -/
def Cx.drew (X : Cx) : Cx := { X with w := { X.w with drawn := X.w.drawn + 1 } }
theorem Same.drew (X : Cx) : Same X X.drew := ⟨rfl, rfl, rfl, Nat.le_refl _, fun _ _ => rfl, fun _ _ => rfl, fun _ _ => rfl, rfl, rfl, rfl, rfl⟩

/-- A new block that stays as it is. -/
def Cx.row (X : Cx) (o : Obj) : Cx := { X with w := { X.w with heap := X.w.heap.push o }, L := upd X.L X.w.heap.size none, own := upd X.own X.w.heap.size none }
theorem Same.row (X : Cx) (o : Obj) : Same X (X.row o) where
  os := rfl
  tape := rfl
  output := rfl
  size := by simp [Cx.row]
  blk := fun b hb => push_lt hb
  L := fun b hb => upd_ne _ _ (by omega)
  own := fun b hb => upd_ne _ _ (by omega)
  bs := rfl
  mu := rfl
  tau := rfl
  kappa := rfl
theorem at_row (X : Cx) {cs : Array Value} {T : TypeId} {fr : Nat × Nat} {o : Nat} {v : Value} (h : cs[o]? = some v) : (X.row (.cells cs T fr)).at_ X.w.heap.size o v :=
  ⟨(cell_eq (w := (X.row (.cells cs T fr)).w) push_eq).trans h, fun n hn => by simp [Cx.row, upd_same] at hn⟩

def Obj.cellN : Obj → Nat
  | .cells cs _ _ => cs.size
  | _ => 0
/-- A new block of the code's own. -/
def Cx.new (X : Cx) (i : Nat) (o : Obj) : Cx :=
  { X with w := { X.w with heap := X.w.heap.push o }, L := upd X.L X.w.heap.size (some 0), own := upd X.own X.w.heap.size (some (.inl i)), μ := upd X.μ i (some X.w.heap.size), bs := upd X.bs X.w.heap.size (Obj.cellN o) }
theorem Cx.new_ext (X : Cx) (i : Nat) (o : Obj) (hi : X.μ i = none) (_ : ∀ j b, X.μ j = some b → b < X.w.heap.size) : Ext2 X (X.new i o) where
  bs := fun b hb => upd_ne _ _ (by omega)
  lt := by simp [Cx.new]
  at_ := fun b o v ⟨h1, h2⟩ => by
    have hb := cell_lt h1
    refine ⟨(cell_congr (push_lt hb)).trans h1, fun n hn => h2 n ?_⟩
    exact (upd_ne X.L (some 0) (show b ≠ X.w.heap.size by omega)).symm.trans hn
  mu := fun j b hj => by
    have : j ≠ i := fun e => by rw [e, hi] at hj; cases hj
    exact (upd_ne _ _ this).trans hj
  nil := fun p t ht => by cases t <;> exact ht
  tag := fun p t b o cap sz len ht => by cases t <;> exact ht

theorem Cx.new_fr (X : Cx) (i : Nat) (o : Obj) (hi : X.μ i = none) (hlt : ∀ j b, X.μ j = some b → b < X.w.heap.size) : Fr X (X.new i o) :=
  ⟨rfl, rfl, rfl, by simp [Cx.new], fun b hb ho => ⟨push_lt hb, (upd_ne _ _ (by omega)).trans ho, upd_ne _ _ (by omega)⟩, X.new_ext i o hi hlt⟩

def St.new (s : St) (b : Blk) : St :=
  match s with
  | ⟨n, t, h, nx, k, nk⟩ => ⟨n, t, upd h nx (some b), nx + 1, k, nk⟩

theorem Rel.mu_none {s : St} {a : Act} {X : Cx} (r : Rel s a X) : X.μ s.nx = none := by
  cases h : X.μ s.nx with
  | none => rfl
  | some b => have := (r.mu _ _ h).1; omega

theorem Rel.mu_lt {s : St} {a : Act} {X : Cx} (r : Rel s a X) (j b : Nat) (h : X.μ j = some b) : b < X.w.heap.size := (r.mu j b h).2
theorem BlkAt.mono {X Y : Cx} (e : Ext2 X Y) {i : Nat} {blk : Blk} (hm : Y.μ i = X.μ i) (hb : ∀ b, X.μ i = some b → b < X.w.heap.size → Y.w.heap[b]? = X.w.heap[b]?) (h : BlkAt X i blk) : BlkAt Y i blk := by
  rcases h with ⟨b, h1, h2⟩ | ⟨h1, h2⟩
  · exact .inl ⟨b, hm.trans h1, h2.mono e (hb b h1 h2.lt) (e.bs b h2.lt)⟩
  · exact .inr ⟨hm.trans h1, h2⟩
theorem Rel.new {s : St} {a : Act} {X : Cx} (r : Rel s a X) (blk : Blk) (o : Obj) (hb : BlkRel (X.new s.nx o) X.w.heap.size blk) : Rel (s.new blk) a (X.new s.nx o) := by
  have e := X.new_ext s.nx o r.mu_none r.mu_lt
  exact {
    size := r.size
    dfr := r.dfr
    tmps := fun t => (r.tmps t).mono e
    heap := fun i bl hi => by
      by_cases h : i = s.nx
      · subst h
        rw [show (s.new blk).h s.nx = some blk from upd_same ..] at hi
        cases hi
        exact ⟨Nat.lt_succ_self _, .inl ⟨_, upd_same .., hb⟩⟩
      · rw [show (s.new blk).h i = s.h i from upd_ne _ _ h] at hi
        obtain ⟨h1, h2⟩ := r.heap i bl hi
        exact ⟨Nat.lt_succ_of_lt h1, h2.mono e (upd_ne _ _ h) fun b _ hb => push_lt hb⟩
    ow := fun i bl b hi hb => by
      by_cases h : i = s.nx
      · subst h
        rw [show (X.new s.nx o).μ s.nx = some X.w.heap.size from upd_same ..] at hb
        cases hb
        exact ⟨upd_same .., upd_same ..⟩
      · rw [show (s.new blk).h i = s.h i from upd_ne _ _ h] at hi
        rw [show (X.new s.nx o).μ i = X.μ i from upd_ne _ _ h] at hb
        have := r.mu_lt _ _ hb
        obtain ⟨h1, h2⟩ := r.ow i bl b hi hb
        exact ⟨(upd_ne _ _ (by omega)).trans h1, (upd_ne _ _ (by omega)).trans h2⟩
    mu := fun i b hi => by
      by_cases h : i = s.nx
      · subst h
        rw [show (X.new s.nx o).μ s.nx = some X.w.heap.size from upd_same ..] at hi
        cases hi
        exact ⟨Nat.lt_succ_self _, by simp [Cx.new]⟩
      · rw [show (X.new s.nx o).μ i = X.μ i from upd_ne _ _ h] at hi
        obtain ⟨h1, h2⟩ := r.mu i b hi
        exact ⟨Nat.lt_succ_of_lt h1, by simp only [Cx.new, Array.size_push]; omega⟩
    kap := r.kap
    kn := r.kn
    tok := fun t b cap sz ht => by
      obtain ⟨len, T, cs, h1, h2, h3, h4, h5, h6, h7⟩ := r.tok t b cap sz ht
      have hb := blk_lt h3
      exact ⟨len, T, cs, h1, h2, (push_lt hb).trans h3, h4, h5, (upd_ne _ _ (by omega)).trans h6, (upd_ne _ _ (by omega)).trans h7⟩ }

theorem Rel.put {s : St} {a : Act} {X : Cx} (r : Rel s a X) {d : Option Nat} {v : AV} {cv : Value} (h : Rep X false v cv) (hd : dstOk s d = true) : Rel (s.put d v) (a.put d cv) X := by
  cases d with
  | none => exact r
  | some d =>
    have hd' : d < s.n := by simpa [dstOk, Nat.blt_eq] using hd
    exact {
      size := by simp [Act.put, St.put, r.size]
      dfr := r.dfr
      tmps := fun t => by
        by_cases e : t = d
        · subst e
          have h1 : (s.put (some t) v).t.get t = v := TT.set_same ..
          have h2 : (a.put (some t) cv).tmps.getD t undef = cv := by simp [Act.put, r.size, hd']
          rw [h1, h2]; exact h
        · have h1 : (s.put (some d) v).t.get t = s.t.get t := TT.set_ne _ _ e
          have h2 : (a.put (some d) cv).tmps.getD t undef = a.tmps.getD t undef := by
            simp only [Act.put, Array.getD_eq_getD_getElem?]
            rw [Array.getElem?_setIfInBounds_ne (by omega)]
          rw [h1, h2]; exact r.tmps t
      heap := r.heap
      ow := r.ow
      mu := r.mu
      kap := r.kap
      kn := r.kn
      tok := r.tok }

/-- The block that a name tells of. -/
theorem Rel.blk {s : St} {a : Act} {X : Cx} (r : Rel s a X) {i b : Nat} {blk : Blk} (hs : s.h i = some blk) (hb : X.μ i = some b) : BlkRel X b blk := by
  rcases (r.heap i blk hs).2 with ⟨c, h1, h2⟩ | ⟨h1, _⟩
  · rw [hb] at h1; cases h1; exact h2
  · rw [hb] at h1; cases h1

/-! ### A store into a block of the code's own -/
def Cx.set (X : Cx) (b : Nat) (o : Obj) : Cx := { X with w := { X.w with heap := X.w.heap.setIfInBounds b o } }
theorem set_ne {w : World} {b c : Nat} {o : Obj} (h : c ≠ b) : ({ w with heap := w.heap.setIfInBounds b o } : World).heap[c]? = w.heap[c]? := by
  simp only []
  rw [Array.getElem?_setIfInBounds_ne (by omega)]
theorem set_eq {w : World} {b : Nat} {o : Obj} (h : b < w.heap.size) : ({ w with heap := w.heap.setIfInBounds b o } : World).heap[b]? = some o := by
  simp [h]
theorem Cx.set_ext (X : Cx) (b : Nat) (o : Obj) (h0 : X.L b = some 0) : Ext2 X (X.set b o) where
  at_ := fun c off v ⟨h1, h2⟩ => by
    have hc : c ≠ b := fun e => by subst e; have := h2 0 h0; omega
    exact ⟨(cell_congr (set_ne hc)).trans h1, h2⟩
  mu := fun _ _ h => h
  bs := fun _ _ => rfl
  lt := by simp [Cx.set]
  nil := fun p t ht => by cases t <;> exact ht
  tag := fun p t b o cap sz len ht => by cases t <;> exact ht
theorem Cx.set_fr (X : Cx) (b : Nat) (o : Obj) (h0 : ∃ i, X.own b = some (.inl i)) (hL : X.L b = some 0) : Fr X (X.set b o) :=
  ⟨rfl, rfl, rfl, by simp [Cx.set], fun c _ ho => by
    have hc : c ≠ b := fun e => by obtain ⟨i, h0⟩ := h0; subst e; rw [h0] at ho; cases ho
    exact ⟨set_ne hc, ho, rfl⟩, X.set_ext b o hL⟩
def St.setB (s : St) (i : Nat) (b : Blk) : St :=
  match s with
  | ⟨n, t, h, nx, k, nk⟩ => ⟨n, t, upd h i (some b), nx, k, nk⟩
theorem Rel.setB {s : St} {a : Act} {X : Cx} (r : Rel s a X) {i b : Nat} {old blk : Blk} (hs : s.h i = some old) (hi : X.μ i = some b) (o : Obj) (hb : BlkRel (X.set b o) b blk) : Rel (s.setB i blk) a (X.set b o) := by
  obtain ⟨m1, m2⟩ := r.mu i b hi
  obtain ⟨m3, m4⟩ := r.ow i _ b hs hi
  have e := X.set_ext b o m4
  exact {
    size := r.size
    dfr := r.dfr
    tmps := fun t => (r.tmps t).mono e
    heap := fun j bl hj => by
      by_cases h : j = i
      · subst h
        rw [show (s.setB j blk).h j = some blk from upd_same ..] at hj
        cases hj
        exact ⟨m1, .inl ⟨b, hi, hb⟩⟩
      · rw [show (s.setB i blk).h j = s.h j from upd_ne _ _ h] at hj
        obtain ⟨h1, h2⟩ := r.heap j bl hj
        refine ⟨h1, h2.mono e rfl fun c h2 _ => set_ne fun ec => ?_⟩
        subst ec
        have := (r.ow j _ c hj h2).1
        rw [m3] at this
        injection this with this
        injection this with this
        exact h this.symm
    ow := fun j bl c hj hc => by
      by_cases h : j = i
      · subst h; exact r.ow j _ c hs hc
      · rw [show (s.setB i blk).h j = s.h j from upd_ne _ _ h] at hj
        exact r.ow j _ c hj hc
    mu := fun j c hj => by
      obtain ⟨h1, h2⟩ := r.mu j c hj
      exact ⟨h1, by simpa [Cx.set] using h2⟩
    kap := r.kap
    kn := r.kn
    tok := fun t c cap sz ht => by
      obtain ⟨len, T, cs, h1, h2, h3, h4, h5, h6, h7⟩ := r.tok t c cap sz ht
      have hc : c ≠ b := fun ec => by subst ec; rw [m3] at h7; cases h7
      exact ⟨len, T, cs, h1, h2, (set_ne hc).trans h3, h4, h5, h6, h7⟩ }

/-! ### Rows that grow -/
def St.kill (s : St) (i : Nat) : St :=
  match s with
  | ⟨n, t, h, nx, k, nk⟩ => ⟨n, t, upd h i none, nx, k, nk⟩
theorem Rel.kill {s : St} {a : Act} {X : Cx} (r : Rel s a X) (i : Nat) : Rel (s.kill i) a X where
  size := r.size
  dfr := r.dfr
  tmps := r.tmps
  heap := fun j blk hj => by
    by_cases h : j = i
    · subst h; rw [show (s.kill j).h j = none from upd_same ..] at hj; cases hj
    · rw [show (s.kill i).h j = s.h j from upd_ne _ _ h] at hj; exact r.heap j blk hj
  ow := fun j blk b hj hb => by
    by_cases h : j = i
    · subst h; rw [show (s.kill j).h j = none from upd_same ..] at hj; cases hj
    · rw [show (s.kill i).h j = s.h j from upd_ne _ _ h] at hj; exact r.ow j blk b hj hb
  mu := r.mu
  kap := r.kap
  kn := r.kn
  tok := r.tok
/-- a row that holds nothing, and lies nowhere -/
theorem Rel.phantom {s : St} {a : Act} {X : Cx} (r : Rel s a X) (T sz : Nat) (f : Nat → AV) : Rel (s.new (.arr T sz 0 f)) a X where
  size := r.size
  dfr := r.dfr
  tmps := r.tmps
  heap := fun j blk hj => by
    by_cases h : j = s.nx
    · subst h
      rw [show (s.new (.arr T sz 0 f)).h s.nx = some (.arr T sz 0 f) from upd_same ..] at hj
      cases hj
      exact ⟨Nat.lt_succ_self _, .inr ⟨r.mu_none, T, sz, f, rfl⟩⟩
    · rw [show (s.new (.arr T sz 0 f)).h j = s.h j from upd_ne _ _ h] at hj
      exact ⟨Nat.lt_succ_of_lt (r.heap j blk hj).1, (r.heap j blk hj).2⟩
  ow := fun j blk b hj hb => by
    by_cases h : j = s.nx
    · subst h; rw [r.mu_none] at hb; cases hb
    · rw [show (s.new (.arr T sz 0 f)).h j = s.h j from upd_ne _ _ h] at hj; exact r.ow j blk b hj hb
  mu := fun j b hj => ⟨Nat.lt_succ_of_lt (r.mu j b hj).1, (r.mu j b hj).2⟩
  kap := r.kap
  kn := r.kn
  tok := r.tok
/-- a block by a new name, its cells others -/
def Cx.regrow (X : Cx) (i b : Nat) (o : Obj) : Cx :=
  { X with w := { X.w with heap := X.w.heap.setIfInBounds b o }, own := upd X.own b (some (.inl i)), μ := upd X.μ i (some b) }
theorem Cx.regrow_ext (X : Cx) {i b : Nat} (o : Obj) (hi : X.μ i = none) (h0 : X.L b = some 0) : Ext2 X (X.regrow i b o) where
  at_ := fun c off v ⟨h1, h2⟩ => by
    have hc : c ≠ b := fun e => by subst e; have := h2 0 h0; omega
    exact ⟨(cell_congr (set_ne hc)).trans h1, h2⟩
  mu := fun j c hj => by
    have : j ≠ i := fun e => by rw [e, hi] at hj; cases hj
    exact (upd_ne _ _ this).trans hj
  bs := fun _ _ => rfl
  lt := by simp [Cx.regrow]
  nil := fun p t ht => by cases t <;> exact ht
  tag := fun p t b o cap sz len ht => by cases t <;> exact ht
theorem Rel.regrow {s : St} {a : Act} {X : Cx} (r : Rel s a X) {i b : Nat} {old blk : Blk} (hs : s.h i = some old) (hi : X.μ i = some b) (o : Obj) (hb : BlkRel (X.regrow s.nx b o) b blk) :
    Rel ((s.kill i).new blk) a (X.regrow s.nx b o) ∧ Fr X (X.regrow s.nx b o) := by
  obtain ⟨m1, m2⟩ := r.mu i b hi
  obtain ⟨m3, m4⟩ := r.ow i _ b hs hi
  have e := X.regrow_ext (i := s.nx) (b := b) o r.mu_none m4
  have hne : ∀ j bl c, j ≠ i → s.h j = some bl → X.μ j = some c → c ≠ b := fun j bl c h hj h2 ec => by
    subst ec
    have := (r.ow j _ c hj h2).1
    rw [m3] at this
    injection this with this
    injection this with this
    exact h this.symm
  have hh : ∀ j, j ≠ s.nx → ((s.kill i).new blk).h j = (s.kill i).h j := fun j h => upd_ne _ _ h
  have hk : ∀ j bl, (s.kill i).h j = some bl → j ≠ i ∧ s.h j = some bl := fun j bl hj => by
    by_cases h : j = i
    · subst h; rw [show (s.kill j).h j = none from upd_same ..] at hj; cases hj
    · rw [show (s.kill i).h j = s.h j from upd_ne _ _ h] at hj; exact ⟨h, hj⟩
  refine ⟨{
    size := r.size
    dfr := r.dfr
    tmps := fun t => (r.tmps t).mono e
    heap := fun j bl hj => by
      by_cases h : j = s.nx
      · subst h
        rw [show ((s.kill i).new blk).h s.nx = some blk from upd_same ..] at hj
        cases hj
        exact ⟨Nat.lt_succ_self _, .inl ⟨b, upd_same .., hb⟩⟩
      · rw [hh j h] at hj
        obtain ⟨h1, h2⟩ := hk j bl hj
        obtain ⟨h3, h4⟩ := r.heap j bl h2
        exact ⟨Nat.lt_succ_of_lt h3, h4.mono e (upd_ne _ _ h) fun c hc _ => set_ne (hne j bl c h1 h2 hc)⟩
    ow := fun j bl c hj hc => by
      by_cases h : j = s.nx
      · subst h
        rw [show (X.regrow s.nx b o).μ s.nx = some b from upd_same ..] at hc
        cases hc
        exact ⟨upd_same .., m4⟩
      · rw [hh j h] at hj
        rw [show (X.regrow s.nx b o).μ j = X.μ j from upd_ne _ _ h] at hc
        obtain ⟨h1, h2⟩ := hk j bl hj
        obtain ⟨h3, h4⟩ := r.ow j bl c h2 hc
        exact ⟨(upd_ne _ _ (hne j bl c h1 h2 hc)).trans h3, h4⟩
    mu := fun j c hj => by
      by_cases h : j = s.nx
      · subst h
        rw [show (X.regrow s.nx b o).μ s.nx = some b from upd_same ..] at hj
        cases hj
        exact ⟨Nat.lt_succ_self _, by simpa [Cx.regrow] using m2⟩
      · rw [show (X.regrow s.nx b o).μ j = X.μ j from upd_ne _ _ h] at hj
        obtain ⟨h1, h2⟩ := r.mu j c hj
        exact ⟨Nat.lt_succ_of_lt h1, by simpa [Cx.regrow] using h2⟩
    kap := r.kap
    kn := r.kn
    tok := fun t c cap sz ht => by
      obtain ⟨len, T, cs, h1, h2, h3, h4, h5, h6, h7⟩ := r.tok t c cap sz ht
      have hc : c ≠ b := fun ec => by subst ec; rw [m3] at h7; cases h7
      exact ⟨len, T, cs, h1, h2, (set_ne hc).trans h3, h4, h5, h6, (upd_ne _ _ hc).trans h7⟩ }, rfl, rfl, rfl, by simp [Cx.regrow], fun c _ ho => ?_, e⟩
  have hc : c ≠ b := fun ec => by subst ec; rw [m3] at ho; cases ho
  exact ⟨set_ne hc, (upd_ne _ _ hc).trans ho, rfl⟩
end Go.Ab
