/- A symbolic evaluator for the loaded Go code, and its soundness: the base: abstract values, what they stand for in a world. -/
import Derived.WalkKit
import Derived.ProofKit
namespace Go.Ab

/-- May a slice be appended to? no: not known; nil: it is nil; tight: its capacity is its length (or it is nil); tok t: it is the owner t's, if it is as long as that one now is. -/
inductive Tag where
  | no | nil | tight | tok (t : Nat)

/-- Abstract values. -/
inductive AV where
  | any
  | int (k : IntKind) (n : Int)
  | bool (b : Bool)
  | str (s : List UInt8)
  | agg (cs : List AV)
  | tup (vs : List AV)
  | nilp | nilm | nilf | nili
  | sl (tag : Tag) (n : Nat) (f : Nat → AV)
  | ptr (i off : Nat)
  | hs (i lo n sz : Nat) (cap : Option Nat)
  | eptr (i j sz off : Nat)
  | cptr (cs : List AV) (off : Nat)
  | map (i : Nat)
  | clo (f : Nat) (first cap : List AV)
  | ifc (t : Nat) (v : AV)
  | nxt (b : Bool) (p : Nat) (c : Int)

instance : Inhabited AV := ⟨.any⟩

def AV.cells : AV → List AV
  | .agg cs => cs
  | x => [x]

/-- What abstract values are told of: a world, which of a block's cells stay (none: all; some n: the first n), whose the abstract blocks and owners are, how long an owner's slice is now, and of which type its row, to whom a block belongs, and how many cells it has. -/
structure Cx where
  w : World
  L : Nat → Option Nat
  μ : Nat → Option Nat
  τ : Nat → Option (Nat × Nat × Nat)
  κ : Nat → Option (Nat × Nat)
  own : Nat → Option (Sum Nat Nat)
  bs : Nat → Nat

def Cx.ok (X : Cx) (b o : Nat) : Prop := ∀ n, X.L b = some n → o < n
def Cx.at_ (X : Cx) (b o : Nat) (v : Value) : Prop := X.w.cell? ⟨b, o, none⟩ = some v ∧ X.ok b o

/-- A world alone, without owners. -/
def Cx.bare (w : World) (L : Nat → Option Nat) : Cx := ⟨w, L, fun _ => none, fun _ => none, fun _ => none, fun _ => none, fun _ => 0⟩

def TagOk (X : Cx) (p : Bool) (tag : Tag) (b o cap sz len : Nat) : Prop :=
  match tag with
  | .no => True
  | .nil => False
  | .tight => cap = len
  | .tok t => p = false ∧ ∃ c T, X.κ t = some (c, T) ∧ len ≤ c ∧ (len = c → (o = 0 ∧ X.τ t = some (b, cap, sz)) ∨ (cap = len ∧ X.τ t = none))

/-- The same of a nil slice. -/
def TagNil (X : Cx) (p : Bool) (tag : Tag) : Prop :=
  match tag with
  | .no => True
  | .nil => True
  | .tight => True
  | .tok t => p = false ∧ ∃ c T, X.κ t = some (c, T) ∧ (0 = c → X.τ t = none)

mutual
/-- What an abstract value stands for. p: it holds nothing that may turn. -/
inductive Rep (X : Cx) : Bool → AV → Value → Prop where
  | any (p v) : Rep X p .any v
  | int (p k n) : Rep X p (.int k n) (.int k n)
  | bool (p b) : Rep X p (.bool b) (.bool b)
  | str (p) (s : List UInt8) : Rep X p (.str s) (.string ⟨s.toArray⟩)
  | agg {p cs vs} (h : RepL X p cs vs) : Rep X p (.agg cs) (.agg vs.toArray)
  | tup {p cs vs} (h : RepL X p cs vs) : Rep X p (.tup cs) (.tuple vs.toArray)
  | nilp (p) : Rep X p .nilp (.pointer none)
  | nilm (p) : Rep X p .nilm (.map none)
  | nilf (p) : Rep X p .nilf .nilFunc
  | nili (p) : Rep X p .nili .nilIface
  | snil {p tag} (f) (A : Option Addr) (h : TagNil X p tag) (hn : tag = .nil → A = none) : Rep X p (.sl tag 0 f) (.slice A 0 0)
  | sl {p tag n f} (b o cap sz : Nat) (g : Nat → List Value) (hz : 0 < sz) (hc : n ≤ cap)
      (hr : ∀ i, i < n → RepL X true (f i).cells (g i)) (hg : ∀ i, i < n → (g i).length = sz)
      (ha : ∀ i, i < n → ∀ j v, (g i)[j]? = some v → X.at_ b (o + i * sz + j) v)
      (ht : TagOk X p tag b o cap sz n) : Rep X p (.sl tag n f) (.slice (some ⟨b, o, none⟩) n cap)
  | ptr {i b} (off) (h : X.μ i = some b) : Rep X false (.ptr i off) (.pointer (some ⟨b, off, none⟩))
  | hs {i b} (lo n sz cap capc o) (h : X.μ i = some b) (hlt : b < X.w.heap.size) (hz : 0 < sz) (hn : n ≤ capc) (hc : ∀ c, cap = some c → capc = c) (ho : capc = 0 ∨ o = lo * sz) (hb : (lo + capc) * sz ≤ X.bs b) : Rep X false (.hs i lo n sz cap) (.slice (some ⟨b, o, none⟩) n capc)
  | hs0 (i lo sz : Nat) (cap : Option Nat) (hz : 0 < sz) (hc : ∀ c, cap = some c → c = 0) : Rep X false (.hs i lo 0 sz cap) (.slice none 0 0)
  | eptr {i b} (j sz off) (h : X.μ i = some b) : Rep X false (.eptr i j sz off) (.pointer (some ⟨b, j * sz + off, none⟩))
  | cptr {p cs vs b o off} (h : RepL X true cs vs) (ha : ∀ j v, vs[j]? = some v → X.at_ b (o + j) v) : Rep X p (.cptr cs off) (.pointer (some ⟨b, o + off, none⟩))
  | map {i b} (h : X.μ i = some b) : Rep X false (.map i) (.map (some b))
  | clo {p f first cap fv cv} (h1 : RepL X p first fv) (h2 : RepL X p cap cv) : Rep X p (.clo f first cap) (.func (.func f) fv.toArray cv.toArray)
  | ifc {p t v cv} (h : Rep X p v cv) : Rep X p (.ifc t v) (.iface t cv)
  | nxtT {p} (i : Nat) (c : Int) : Rep X p (.nxt true i c) (.tuple #[.bool true, .int .i64 i, .int .i32 c])
  | nxtF {p} (i : Nat) (c : Int) : Rep X p (.nxt false i c) (.tuple #[.bool false])
inductive RepL (X : Cx) : Bool → List AV → List Value → Prop where
  | nil {p} : RepL X p [] []
  | cons {p a v as vs} (h : Rep X p a v) (hs : RepL X p as vs) : RepL X p (a :: as) (v :: vs)
end

/-- Y knows what X knows of cells that stay. -/
def Ext (X Y : Cx) : Prop := ∀ b o v, X.at_ b o v → Y.at_ b o v

structure Ext2 (X Y : Cx) : Prop where
  at_ : Ext X Y
  mu : ∀ i b, X.μ i = some b → Y.μ i = some b
  bs : ∀ b, b < X.w.heap.size → Y.bs b = X.bs b
  lt : X.w.heap.size ≤ Y.w.heap.size
  nil : ∀ p t, TagNil X p t → TagNil Y p t
  tag : ∀ p t b o cap sz len, TagOk X p t b o cap sz len → TagOk Y p t b o cap sz len

theorem TagOk.pure {X Y : Cx} {t b o cap sz len} (h : TagOk X true t b o cap sz len) : TagOk Y true t b o cap sz len := by
  cases t with
  | no => trivial
  | nil => exact h
  | tight => exact h
  | tok t => exact absurd h.1 (by simp)
theorem TagNil.pure {X Y : Cx} {t} (h : TagNil X true t) : TagNil Y true t := by
  cases t with
  | no => trivial
  | nil => exact h
  | tight => exact h
  | tok t => exact absurd h.1 (by simp)
theorem TagOk.weak {X : Cx} {p t b o cap sz len} (h : TagOk X true t b o cap sz len) : TagOk X p t b o cap sz len := by
  cases t with
  | no => trivial
  | nil => exact h
  | tight => exact h
  | tok t => exact absurd h.1 (by simp)
theorem TagNil.weak {X : Cx} {p t} (h : TagNil X true t) : TagNil X p t := by
  cases t with
  | no => trivial
  | nil => exact h
  | tight => exact h
  | tok t => exact absurd h.1 (by simp)

mutual
theorem Rep.pmono {X Y : Cx} (e : Ext X Y) : ∀ {p a v}, p = true → Rep X p a v → Rep Y p a v
  | _, _, _, _, .any .. => .any ..
  | _, _, _, _, .int .. => .int ..
  | _, _, _, _, .bool .. => .bool ..
  | _, _, _, _, .str .. => .str ..
  | _, _, _, hp, .agg h => .agg (RepL.pmono e hp h)
  | _, _, _, hp, .tup h => .tup (RepL.pmono e hp h)
  | _, _, _, _, .nilp .. => .nilp ..
  | _, _, _, _, .nilm .. => .nilm ..
  | _, _, _, _, .nilf .. => .nilf ..
  | _, _, _, _, .nili .. => .nili ..
  | _, _, _, hp, .snil f A h hn => .snil f A (by subst hp; exact h.pure) hn
  | _, _, _, hp, .sl b o cap sz g hz hc hr hg ha ht =>
    .sl b o cap sz g hz hc (fun i hi => RepL.pmono e rfl (hr i hi)) hg (fun i hi j v hv => e _ _ _ (ha i hi j v hv)) (by subst hp; exact ht.pure)
  | _, _, _, hp, .ptr .. => by cases hp
  | _, _, _, hp, .hs .. => by cases hp
  | _, _, _, hp, .hs0 .. => by cases hp
  | _, _, _, hp, .eptr .. => by cases hp
  | _, _, _, _, .cptr h ha => .cptr (RepL.pmono e rfl h) fun j v hv => e _ _ _ (ha j v hv)
  | _, _, _, hp, .map .. => by cases hp
  | _, _, _, hp, .clo h1 h2 => .clo (RepL.pmono e hp h1) (RepL.pmono e hp h2)
  | _, _, _, hp, .ifc h => .ifc (Rep.pmono e hp h)
  | _, _, _, _, .nxtT .. => .nxtT ..
  | _, _, _, _, .nxtF .. => .nxtF ..
theorem RepL.pmono {X Y : Cx} (e : Ext X Y) : ∀ {p as vs}, p = true → RepL X p as vs → RepL Y p as vs
  | _, _, _, _, .nil => .nil
  | _, _, _, hp, .cons h hs => .cons (Rep.pmono e hp h) (RepL.pmono e hp hs)
end

mutual
theorem Rep.mono {X Y : Cx} (e : Ext2 X Y) : ∀ {p a v}, Rep X p a v → Rep Y p a v
  | _, _, _, .any .. => .any ..
  | _, _, _, .int .. => .int ..
  | _, _, _, .bool .. => .bool ..
  | _, _, _, .str .. => .str ..
  | _, _, _, .agg h => .agg (RepL.mono e h)
  | _, _, _, .tup h => .tup (RepL.mono e h)
  | _, _, _, .nilp .. => .nilp ..
  | _, _, _, .nilm .. => .nilm ..
  | _, _, _, .nilf .. => .nilf ..
  | _, _, _, .nili .. => .nili ..
  | _, _, _, .snil f A h hn => .snil f A (e.nil _ _ h) hn
  | _, _, _, .sl b o cap sz g hz hc hr hg ha ht =>
    .sl b o cap sz g hz hc (fun i hi => RepL.pmono e.at_ rfl (hr i hi)) hg (fun i hi j v hv => e.at_ _ _ _ (ha i hi j v hv)) (e.tag _ _ _ _ _ _ _ ht)
  | _, _, _, .ptr off h => .ptr off (e.mu _ _ h)
  | _, _, _, .hs lo n sz cap capc o h hl hz hn hc ho hb => .hs lo n sz cap capc o (e.mu _ _ h) (Nat.lt_of_lt_of_le hl e.lt) hz hn hc ho (by rw [e.bs _ hl]; exact hb)
  | _, _, _, .hs0 i lo sz cap hz hc => .hs0 i lo sz cap hz hc
  | _, _, _, .eptr j sz off h => .eptr j sz off (e.mu _ _ h)
  | _, _, _, .cptr h ha => .cptr (RepL.pmono e.at_ rfl h) fun j v hv => e.at_ _ _ _ (ha j v hv)
  | _, _, _, .map h => .map (e.mu _ _ h)
  | _, _, _, .clo h1 h2 => .clo (RepL.mono e h1) (RepL.mono e h2)
  | _, _, _, .ifc h => .ifc (Rep.mono e h)
  | _, _, _, .nxtT .. => .nxtT ..
  | _, _, _, .nxtF .. => .nxtF ..
theorem RepL.mono {X Y : Cx} (e : Ext2 X Y) : ∀ {p as vs}, RepL X p as vs → RepL Y p as vs
  | _, _, _, .nil => .nil
  | _, _, _, .cons h hs => .cons (Rep.mono e h) (RepL.mono e hs)
end

mutual
theorem Rep.weak {X : Cx} {q : Bool} : ∀ {p a v}, p = true → Rep X p a v → Rep X q a v
  | _, _, _, _, .any .. => .any ..
  | _, _, _, _, .int .. => .int ..
  | _, _, _, _, .bool .. => .bool ..
  | _, _, _, _, .str .. => .str ..
  | _, _, _, hp, .agg h => .agg (RepL.weak hp h)
  | _, _, _, hp, .tup h => .tup (RepL.weak hp h)
  | _, _, _, _, .nilp .. => .nilp ..
  | _, _, _, _, .nilm .. => .nilm ..
  | _, _, _, _, .nilf .. => .nilf ..
  | _, _, _, _, .nili .. => .nili ..
  | _, _, _, hp, .snil f A h hn => .snil f A (by subst hp; exact h.weak) hn
  | _, _, _, hp, .sl b o cap sz g hz hc hr hg ha ht => .sl b o cap sz g hz hc hr hg ha (by subst hp; exact ht.weak)
  | _, _, _, hp, .ptr .. => by cases hp
  | _, _, _, hp, .hs .. => by cases hp
  | _, _, _, hp, .hs0 .. => by cases hp
  | _, _, _, hp, .eptr .. => by cases hp
  | _, _, _, _, .cptr h ha => .cptr h ha
  | _, _, _, hp, .map .. => by cases hp
  | _, _, _, hp, .clo h1 h2 => .clo (RepL.weak hp h1) (RepL.weak hp h2)
  | _, _, _, hp, .ifc h => .ifc (Rep.weak hp h)
  | _, _, _, _, .nxtT .. => .nxtT ..
  | _, _, _, _, .nxtF .. => .nxtF ..
theorem RepL.weak {X : Cx} {q : Bool} : ∀ {p as vs}, p = true → RepL X p as vs → RepL X q as vs
  | _, _, _, _, .nil => .nil
  | _, _, _, hp, .cons h hs => .cons (Rep.weak hp h) (RepL.weak hp hs)
end

theorem Rep.of_pure {X : Cx} {q : Bool} {a v} (h : Rep X true a v) : Rep X q a v := Rep.weak rfl h
theorem RepL.of_pure {X : Cx} {q : Bool} {a v} (h : RepL X true a v) : RepL X q a v := RepL.weak rfl h

/-! Lists -/
theorem RepL.length {X : Cx} {p as vs} (h : RepL X p as vs) : as.length = vs.length := by
  induction as generalizing vs with
  | nil => cases h; rfl
  | cons a as ih => cases h with | cons h hs => simp [ih hs]
theorem RepL.get {X : Cx} {p as vs} (h : RepL X p as vs) {i : Nat} {a : AV} (ha : as[i]? = some a) : ∃ v, vs[i]? = some v ∧ Rep X p a v := by
  induction as generalizing vs i with
  | nil => simp at ha
  | cons x xs ih =>
    cases h with
    | cons h hs =>
      cases i with
      | zero => simp at ha; subst ha; exact ⟨_, by simp, h⟩
      | succ i => simp at ha; obtain ⟨v, h1, h2⟩ := ih hs ha; exact ⟨v, by simpa using h1, h2⟩
theorem RepL.append {X : Cx} {p as vs bs ws} (h : RepL X p as vs) (k : RepL X p bs ws) : RepL X p (as ++ bs) (vs ++ ws) := by
  induction as generalizing vs with
  | nil => cases h; exact k
  | cons a as ih => cases h with | cons h hs => exact .cons h (ih hs)
theorem RepL.drop {X : Cx} {p as vs} (h : RepL X p as vs) (n : Nat) : RepL X p (as.drop n) (vs.drop n) := by
  induction n generalizing as vs with
  | zero => exact h
  | succ n ih => cases h with
    | nil => exact .nil
    | cons h hs => exact ih hs
theorem RepL.take {X : Cx} {p as vs} (h : RepL X p as vs) (n : Nat) : RepL X p (as.take n) (vs.take n) := by
  induction n generalizing as vs with
  | zero => simp; exact .nil
  | succ n ih => cases h with
    | nil => exact .nil
    | cons h hs => exact .cons h (ih hs)
theorem RepL.set {X : Cx} {p as vs a v} (h : RepL X p as vs) (k : Rep X p a v) (i : Nat) : RepL X p (as.set i a) (vs.set i v) := by
  induction as generalizing vs i with
  | nil => cases h; exact .nil
  | cons x xs ih => cases h with
    | cons h hs => cases i with
      | zero => exact .cons k hs
      | succ i => exact .cons h (ih hs i)
theorem RepL.replicate {X : Cx} {p a v} (h : Rep X p a v) (n : Nat) : RepL X p (List.replicate n a) (List.replicate n v) := by
  induction n with
  | zero => exact .nil
  | succ n ih => exact .cons h ih
theorem Rep.cells {X : Cx} {p a v} (h : Rep X p a v) (ha : a ≠ .any) : RepL X p a.cells v.cells.toList := by
  cases h <;> first | exact absurd rfl ha | (simp only [AV.cells, Value.cells]; try simp) <;> first | assumption | exact .cons (by first | assumption | constructor <;> assumption) .nil
end Go.Ab
