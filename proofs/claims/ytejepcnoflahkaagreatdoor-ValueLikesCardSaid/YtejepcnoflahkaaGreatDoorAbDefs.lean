/- The symbolic evaluator: what an operation gives, what code comes to. Definitions alone. -/
import Derived.Test.YtejepcnoflahkaaGreatDoorAbRel
namespace Go.Ab

/-! ### Types, calls -/
inductive TD where
  | bool | int (k : IntKind) | str
  | ptr (e : Nat) | slice (e : Nat) | map (k e : Nat)
  | struct (fs : List (Nat × Nat × Bool))
  | array (n e : Nat) | func | iface | other

def TD.agg : TD → Bool
  | .struct _ => true
  | .array .. => true
  | _ => false

structure TI where
  size : Nat
  bytes : Nat
  d : TD
  zero : AV
  eqok : Bool := false

/-- What a call is said to come to. -/
inductive CR where
  | no
  | yes (r : AV)
  | need (C : Prop) [Decidable C] (r : AV)


/-- What an operation gives: nothing that is known; a value and a state; these, if something holds. -/
inductive Res where
  | fail
  | ok (v : AV) (s : St)
  | need (C : Prop) [Decidable C] (v : AV) (s : St)
/-- The types; what calls come to; of which functions' calls it is told what they do to memory, and what; are calls of closures such, too? Are slices that are made told as memory of one's own? -/
structure Env where
  Γ : Nat → Option TI
  T : Nat → List AV → CR
  hf : Nat → Bool := fun _ => false
  hc : Bool := false
  hp : Bool := false
  bt : Nat → Bool := fun _ => false
  gp : Bool := false
  tk : Nat → Option IntKind := fun _ => none
  bp : Nat → Bool := fun _ => false
  ap : Bool := false
  H : Nat → List AV → St → Res := fun _ _ _ => .fail
  G : World → Prop := fun _ => True

/-- a type's description -/
def tdOf (E : Env) (t : Nat) : Option TD :=
  match E.Γ t with
  | some ti => some ti.d
  | none => none
/-! ### Values -/
def toAV1 : Value → Option AV
  | .int k n => some (.int k n)
  | .bool b => some (.bool b)
  | .string s => some (.str s.data.toList)
  | .pointer none => some .nilp
  | .slice none 0 0 => some (.sl .nil 0 fun _ => .any)
  | .map none => some .nilm
  | .nilFunc => some .nilf
  | .nilIface => some .nili
  | _ => none
def toAVL : List Value → Option (List AV)
  | [] => some []
  | v :: vs => match toAV1 v, toAVL vs with
    | some a, some as => some (a :: as)
    | _, _ => none
def toAV : Value → Option AV
  | .agg cs => match toAVL cs.toList with
    | some as => some (.agg as)
    | none => none
  | v => toAV1 v

mutual
/-- What of a value may leave a call: nothing that turns. -/
def pureOf : AV → Option AV
  | .any => some .any
  | .int k n => some (.int k n)
  | .bool b => some (.bool b)
  | .str s => some (.str s)
  | .agg cs => match pureL cs with | some l => some (.agg l) | none => none
  | .tup cs => match pureL cs with | some l => some (.tup l) | none => none
  | .nilp => some .nilp
  | .nilm => some .nilm
  | .nilf => some .nilf
  | .nili => some .nili
  | .sl .tight n f => some (.sl .tight n f)
  | .sl .nil n f => some (.sl .nil n f)
  | .sl _ n f => some (.sl .no n f)
  | .ptr .. => none
  | .hs .. => none
  | .eptr .. => none
  | .cptr cs off => some (.cptr cs off)
  | .map _ => none
  | .clo f first cap => match pureL first, pureL cap with | some l, some m => some (.clo f l m) | _, _ => none
  | .ifc t v => match pureOf v with | some a => some (.ifc t a) | none => none
  | .nxt .. => none
def pureL : List AV → Option (List AV)
  | [] => some []
  | a :: as => match pureOf a, pureL as with | some x, some xs => some (x :: xs) | _, _ => none
end

/-- a name, laid out -/
def layId {α : Sort _} (n : Nat) (k : Nat → α) : α :=
  match n with
  | 0 => k 0
  | 1 => k 1
  | 2 => k 2
  | 3 => k 3
  | 4 => k 4
  | 5 => k 5
  | 6 => k 6
  | 7 => k 7
  | 8 => k 8
  | 9 => k 9
  | 10 => k 10
  | 11 => k 11
  | 12 => k 12
  | 13 => k 13
  | 14 => k 14
  | 15 => k 15
  | 16 => k 16
  | 17 => k 17
  | 18 => k 18
  | 19 => k 19
  | 20 => k 20
  | 21 => k 21
  | 22 => k 22
  | 23 => k 23
  | 24 => k 24
  | 25 => k 25
  | 26 => k 26
  | 27 => k 27
  | 28 => k 28
  | 29 => k 29
  | 30 => k 30
  | 31 => k 31
  | 32 => k 32
  | n => k n
theorem layId_eq {α : Sort _} (n : Nat) (k : Nat → α) : layId n k = k n := by
  unfold layId
  split <;> rfl
mutual
/-- The same value, laid out as far as it is known (so that what is reckoned once is not reckoned again). -/
def force {α : Sort _} : AV → (AV → α) → α
  | .any, k => k .any
  | .int i n, k => k (.int i n)
  | .bool b, k => k (.bool b)
  | .str l, k => k (.str l)
  | .agg cs, k => forceL cs fun l => k (.agg l)
  | .tup cs, k => forceL cs fun l => k (.tup l)
  | .nilp, k => k .nilp
  | .nilm, k => k .nilm
  | .nilf, k => k .nilf
  | .nili, k => k .nili
  | .sl tag n f, k => match tag with
    | .no => k (.sl .no n f)
    | .nil => k (.sl .nil n f)
    | .tight => k (.sl .tight n f)
    | .tok t => layId t fun t => k (.sl (.tok t) n f)
  | .ptr i o, k => layId i fun i => k (.ptr i o)
  | .hs i lo n sz cap, k => layId i fun i => layId sz fun sz => match cap with
    | none => k (.hs i lo n sz none)
    | some c => k (.hs i lo n sz (some c))
  | .eptr i j sz off, k => layId i fun i => layId sz fun sz => k (.eptr i j sz off)
  | .cptr cs o, k => forceL cs fun l => k (.cptr l o)
  | .map i, k => layId i fun i => k (.map i)
  | .clo f a b, k => forceL a fun l => forceL b fun m => k (.clo f l m)
  | .ifc t v, k => force v fun a => k (.ifc t a)
  | .nxt b p c, k => k (.nxt b p c)
def forceL {α : Sort _} : List AV → (List AV → α) → α
  | [], k => k []
  | a :: l, k => force a fun x => forceL l fun xs => k (x :: xs)
end
mutual
theorem force_eq {α : Sort _} : ∀ (v : AV) (k : AV → α), force v k = k v
  | .any, _ => rfl
  | .int .., _ => rfl
  | .bool _, _ => rfl
  | .str _, _ => rfl
  | .agg cs, k => by rw [force, forceL_eq cs]
  | .tup cs, k => by rw [force, forceL_eq cs]
  | .nilp, _ => rfl
  | .nilm, _ => rfl
  | .nilf, _ => rfl
  | .nili, _ => rfl
  | .sl tag n f, k => by cases tag <;> first | rfl | (simp only [force, layId_eq])
  | .ptr .., _ => by simp only [force, layId_eq]
  | .hs i lo n sz cap, k => by cases cap <;> (simp only [force, layId_eq])
  | .eptr .., _ => by simp only [force, layId_eq]
  | .cptr cs o, k => by rw [force, forceL_eq cs]
  | .map _, _ => by simp only [force, layId_eq]
  | .clo f a b, k => by rw [force, forceL_eq a, forceL_eq b]
  | .ifc t v, k => by rw [force, force_eq v]
  | .nxt .., _ => rfl
theorem forceL_eq {α : Sort _} : ∀ (l : List AV) (k : List AV → α), forceL l k = k l
  | [], _ => rfl
  | a :: l, k => by rw [forceL, force_eq a, forceL_eq l]
end
def forceS {α : Sort _} (s : St) (k : St → α) : α :=
  match s with
  | ⟨n, t, h, nx, q, nk⟩ => layId nx fun nx => layId nk fun nk => k ⟨n, t, h, nx, q, nk⟩
theorem forceS_eq {α : Sort _} (s : St) (k : St → α) : forceS s k = k s := by
  cases s
  simp only [forceS, layId_eq]
def TT.setK {α : Sort _} (v : AV) : Nat → TT → Nat → (TT → α) → α
  | 0, t, _, k => k t
  | f + 1, t, i, k => match t with
    | .leaf => match i with
      | 0 => k (.node .leaf v .leaf)
      | n + 1 => match Nat.beq (n % 2) 0 with
        | true => TT.setK v f .leaf (n / 2) fun l => k (.node l .any .leaf)
        | false => TT.setK v f .leaf (n / 2) fun r => k (.node .leaf .any r)
    | .node l x r => match i with
      | 0 => k (.node l v r)
      | n + 1 => match Nat.beq (n % 2) 0 with
        | true => TT.setK v f l (n / 2) fun l' => k (.node l' x r)
        | false => TT.setK v f r (n / 2) fun r' => k (.node l x r')
theorem TT.setK_eq {α : Sort _} (v : AV) : ∀ (f : Nat) (t : TT) (i : Nat) (k : TT → α), TT.setK v f t i k = k (TT.setF f t i v) := by
  intro f
  induction f with
  | zero => intro t i k; rfl
  | succ f ih =>
    intro t i k
    cases t <;> cases i with
    | zero => rfl
    | succ n => simp only [TT.setK, TT.setF]; cases Nat.beq (n % 2) 0 <;> simp only [ih]
def St.putK {α : Sort _} (s : St) (d : Option Nat) (v : AV) (K : St → α) : α :=
  match s with
  | ⟨n, t, h, nx, k, nk⟩ => match d with
    | some d => TT.setK v (d + 1) t d fun t' => K ⟨n, t', h, nx, k, nk⟩
    | none => K ⟨n, t, h, nx, k, nk⟩
theorem St.putK_eq {α : Sort _} (s : St) (d : Option Nat) (v : AV) (K : St → α) : s.putK d v K = K (s.put d v) := by
  cases d with
  | none => rfl
  | some d => exact TT.setK_eq v _ _ _ _

/-- one cell, and known to be one -/
def one : AV → Bool
  | .any | .agg _ | .tup _ | .nxt .. => false
  | _ => true
def ones : List AV → Bool
  | [] => true
  | a :: as => match one a with | true => ones as | false => false
def known : AV → Bool
  | .any => false
  | _ => true

def ev (s : St) : Operand → Option AV
  | .tmp t => some (s.t.get t)
  | .const v => toAV v
  | .global _ => none
  | .func f => some (.clo f [] [])
def evs (s : St) : List Operand → Option (List AV)
  | [] => some []
  | x :: xs => match ev s x, evs s xs with
    | some a, some l => some (a :: l)
    | _, _ => none
/-- a text, laid out -/
def layS {α : Sort _} : List UInt8 → (List UInt8 → α) → α
  | [], k => k []
  | x :: l, k => layS l fun l' => k (x :: l')
theorem layS_eq {α : Sort _} : ∀ (l : List UInt8) (k : List UInt8 → α), layS l k = k l
  | [], _ => rfl
  | x :: l, k => by rw [layS, layS_eq l]
def evF {α : Sort _} (s : St) (x : Operand) (fail : α) (k : AV → α) : α :=
  match x with
  | .const (.string b) => layS b.data.toList fun l => k (.str l)
  | x => match ev s x with
    | some v => force v k
    | none => fail
theorem evF_eq {α : Sort _} (s : St) (x : Operand) (fail : α) (k : AV → α) : evF s x fail k = match ev s x with | some v => k v | none => fail := by
  unfold evF
  split
  · rw [layS_eq]; rfl
  · cases ev s x <;> simp only [force_eq]
def evsF {α : Sort _} (s : St) : List Operand → α → (List AV → α) → α
  | [], _, k => k []
  | x :: xs, fail, k => evF s x fail fun a => evsF s xs fail fun l => k (a :: l)
theorem evsF_eq {α : Sort _} (s : St) : ∀ (x : List Operand) (fail : α) (k : List AV → α), evsF s x fail k = match evs s x with | some v => k v | none => fail
  | [], fail, k => rfl
  | x :: xs, fail, k => by
    rw [evsF, evF_eq]
    simp only [evs]
    cases ev s x with
    | none => rfl
    | some v =>
      simp only [evsF_eq s xs]
      cases evs s xs <;> rfl

/-- A way parts: p if A, q if B. -/
structure BR (A B : Prop) (p q : Prop) : Prop where
  t : A → p
  f : B → q
def Res.all (r : Res) (K : AV → St → Prop) : Prop :=
  match r with
  | .fail => False
  | .ok v s => force v fun v => forceS s fun s => K v s
  | @Res.need C _ v s => BR True True C (force v fun v => forceS s fun s => K v s)

def Res.of (s : St) : Option AV → Res
  | some v => .ok v s
  | none => .fail
def evR (s : St) (x : Operand) : Res := evF s x .fail fun v => .ok v s
theorem evR_eq (s : St) (x : Operand) : evR s x = Res.of s (ev s x) := by
  unfold evR
  rw [evF_eq]
  cases ev s x <;> rfl

/-! ### Memory -/
def cellsAt (agg : Bool) (size : Nat) (cs : List AV) (off : Nat) : Option AV :=
  match agg with
  | true => match Nat.ble (off + size) cs.length with
    | true => some (.agg ((cs.drop off).take size))
    | false => none
  | false => cs[off]?
def setCells : List AV → Nat → List AV → List AV
  | cs, _, [] => cs
  | cs, off, v :: vs => setCells (cs.set off v) (off + 1) vs

def loadA (E : Env) (s : St) (T : Nat) (x : AV) : Option AV :=
  match E.Γ T with
  | none => none
  | some ti => match x with
    | .ptr i off => match s.h i with
      | some (.cells cs) => cellsAt ti.d.agg ti.size cs off
      | some (.tcells _ cs) => cellsAt ti.d.agg ti.size cs off
      | _ => none
    | .cptr cs off => cellsAt ti.d.agg ti.size cs off
    | _ => none
/-- of an element in a row of one's own -/
def loadR (E : Env) (s : St) (T : Nat) (x : AV) : Res :=
  match x with
  | .eptr i j sz off => match E.Γ T with
    | none => .fail
    | some ti => match s.h i with
      | some (.arr _U sz' n f) => match cellsAt ti.d.agg ti.size (f j).cells off with
        | some v => .need (j < n ∧ sz' = sz) v s
        | none => .fail
      | _ => .fail
  | x => Res.of s (loadA E s T x)
/-- an element, a part of it stored -/
def putE (x : AV) (off : Nat) (v : AV) : Option AV :=
  match x with
  | .agg cs => some (.agg (setCells cs off v.cells))
  | .any => none
  | _ => match v.cells, off with
    | [u], 0 => some u
    | _, _ => none
def storeA (E : Env) (s : St) (T : Nat) (x v : AV) : Res :=
  match E.Γ T with
  | none => .fail
  | some ti => match x with
    | .ptr i off => match s.h i with
      | some (.cells cs) => match ones v.cells, Nat.beq v.cells.length ti.size, Nat.ble (off + ti.size) cs.length with
        | true, true, true => forceL (setCells cs off v.cells) fun l => .ok (.tup []) (s.setB i (.cells l))
        | _, _, _ => .fail
      | some (.tcells U cs) => match ones v.cells, Nat.beq v.cells.length ti.size, Nat.ble (off + ti.size) cs.length with
        | true, true, true => forceL (setCells cs off v.cells) fun l => .ok (.tup []) (s.setB i (.tcells U l))
        | _, _, _ => .fail
      | _ => .fail
    | .eptr i j sz off => match s.h i with
      | some (.arr U' sz' n f) => match Nat.beq off 0 && Nat.beq ti.size sz with
        | true => match ones v.cells, Nat.beq v.cells.length ti.size with
          | true, true => force v fun u => .need (j < n ∧ sz' = sz) (.tup []) (s.setB i (.arr U' sz' n (upd f j u)))
          | _, _ => .fail
        | false => match ones v.cells, Nat.beq v.cells.length ti.size, Nat.ble (off + ti.size) (f j).cells.length with
          | true, true, true => match putE (f j) off v with
            | some u => force u fun u => .need (j < n ∧ sz' = sz) (.tup []) (s.setB i (.arr U' sz' n (upd f j u)))
            | none => .fail
          | _, _, _ => .fail
      | _ => .fail
    | _ => .fail
def boxA (s : St) (v : AV) : Res :=
  match v with
  | .any => .fail
  | .agg cs => .ok (.ptr s.nx 0) (s.new (.cells cs))
  | v => .ok (.ptr s.nx 0) (s.new (.cells [v]))
def allocA (E : Env) (s : St) (T : Nat) : Res :=
  match E.Γ T with
  | none => .fail
  | some ti => forceL ti.zero.cells fun l => match E.bt T with
    | false => .ok (.ptr s.nx 0) (s.new (.cells l))
    | true => .ok (.ptr s.nx 0) (s.new (.tcells T l))

def fillA (place : Nat → Option (Nat × Nat)) : List AV → List (Nat × AV) → Option (List AV)
  | cells, [] => some cells
  | cells, (i, v) :: rest =>
    match place i with
    | none => none
    | some (off, size) => match known v, Nat.beq v.cells.length size, Nat.ble (off + v.cells.length) cells.length with
      | true, true, true => fillA place (setCells cells off v.cells) rest
      | _, _, _ => none
def placeA (E : Env) (fs : List (Nat × Nat × Bool)) (i : Nat) : Option (Nat × Nat) :=
  match fs[i]? with
  | none => none
  | some (t, off, _) => match E.Γ t with
    | none => none
    | some ti => some (off, ti.size)
/-- every field's type is known -/
def allA (E : Env) : List (Nat × Nat × Bool) → Bool
  | [] => true
  | (t, _, _) :: fs => match E.Γ t with
    | none => false
    | some _ => allA E fs
def buildA (E : Env) (T : Nat) (parts : List (Nat × AV)) : Option AV :=
  match E.Γ T with
  | none => none
  | some ti => match ti.d with
    | .struct fs => match allA E fs with
      | true => match fillA (placeA E fs) ti.zero.cells parts with
        | some cells => some (.agg cells)
        | none => none
      | false => none
    | .array _ e => match E.Γ e with
      | none => none
      | some te => match fillA (fun i => some (i * te.size, te.size)) ti.zero.cells parts with
        | some cells => some (.agg cells)
        | none => none
    | _ => none
/-- all of them texts -/
def strsA : List AV → Option (List (List UInt8))
  | [] => some []
  | .str s :: l => match strsA l with
    | some r => some (s :: r)
    | none => none
  | _ => none
def elemA (agg : Bool) (size : Nat) (cells : List AV) (i : Nat) : AV :=
  match agg with
  | true => .agg ((cells.drop (i * size)).take size)
  | false => match strsA cells with
    | some r => .str (r.getD i [])
    | none => match cells.getD i .any with
      | .agg _ => .any
      | x => x
def pureParts : List (Nat × AV) → Option (List (Nat × AV))
  | [] => some []
  | (i, v) :: l => match pureOf v, pureParts l with
    | some a, some r => some ((i, a) :: r)
    | _, _ => none
def repCells (z : List AV) : Nat → List AV
  | 0 => []
  | n + 1 => z ++ repCells z n
def buildSliceA (E : Env) (T len : Nat) (parts : List (Nat × AV)) : Option AV :=
  match E.Γ T with
  | none => none
  | some ti => match ti.d with
    | .slice e => match E.Γ e with
      | none => none
      | some te => match Nat.blt 0 te.size, Nat.ble (len * te.size) 16777216, Nat.beq te.zero.cells.length te.size, te.d.agg || Nat.beq te.size 1 with
        | true, true, true, true => match pureParts parts with
          | none => none
          | some l => match fillA (fun i => some (i * te.size, te.size)) (repCells te.zero.cells len) l with
            | some cells => forceL cells fun cells => some (.sl .tight len (elemA te.d.agg te.size cells))
            | none => none
        | _, _, _, _ => none
    | _ => none
/-- the same as a row of one's own -/
def buildRowA (E : Env) (s : St) (T len : Nat) (parts : List (Nat × AV)) : Res :=
  match E.Γ T with
  | none => .fail
  | some ti => match ti.d with
    | .slice e => match E.Γ e with
      | none => .fail
      | some te => match Nat.blt 0 te.size, Nat.ble (len * te.size) 16777216, Nat.beq te.zero.cells.length te.size, te.d.agg || Nat.beq te.size 1 with
        | true, true, true, true => match fillA (fun i => some (i * te.size, te.size)) (repCells te.zero.cells len) parts with
          | some cells => forceL cells fun cells => .ok (.hs s.nx 0 len te.size (some len)) (s.new (.arr e te.size len (elemA te.d.agg te.size cells)))
          | none => .fail
        | _, _, _, _ => .fail
    | _ => .fail
def fieldAddrA (E : Env) (S : Nat) (x : AV) (f : Nat) : Option AV :=
  match E.Γ S with
  | none => none
  | some ti => match ti.d with
    | .struct fs => match placeA E fs f with
      | none => none
      | some (off, size) => match Nat.blt 0 size with
        | false => none
        | true => match x with
          | .ptr i o => some (.ptr i (o + off))
          | .cptr cs o => some (.cptr cs (o + off))
          | .eptr i j sz o => some (.eptr i j sz (o + off))
          | _ => none
    | _ => none
def fieldA (E : Env) (S : Nat) (x : AV) (f : Nat) : Option AV :=
  match E.Γ S with
  | none => none
  | some ti => match ti.d with
    | .struct fs => match fs[f]? with
      | none => none
      | some (t, off, _) => match E.Γ t with
        | none => none
        | some tf => match x with
          | .agg cs => cellsAt tf.d.agg tf.size cs off
          | _ => none
    | _ => none
def indexAddrA (E : Env) (s : St) (T : Nat) (x i : AV) : Res :=
  match E.Γ T with
  | none => .fail
  | some ti => match ti.d with
    | .slice e => match E.Γ e with
      | none => .fail
      | some te => match x, i with
        | .sl _ n f, .int _ j => .need ((0 ≤ j ∧ j < n) ∧ (f j.toNat).cells.length = te.size ∧ known (f j.toNat) = true) (.cptr (f j.toNat).cells 0) s
        | .hs b lo n sz _, .int _ j => .need ((0 ≤ j ∧ j < n) ∧ te.size = sz) (.eptr b (lo + j.toNat) sz 0) s
        | _, _ => .fail
    | .array n e => match E.Γ e with
      | none => .fail
      | some te => match x, i with
        | .ptr b o, .int _ j => .need ((0 ≤ j ∧ j < n) ∧ 0 < te.size) (.ptr b (o + j.toNat * te.size)) s
        | .cptr cs o, .int _ j => .need ((0 ≤ j ∧ j < n) ∧ 0 < te.size) (.cptr cs (o + j.toNat * te.size)) s
        | _, _ => .fail
    | _ => .fail
def indexA (E : Env) (s : St) (T : Nat) (x i : AV) : Res :=
  match E.Γ T with
  | none => .fail
  | some ti => match ti.d, x, i with
    | .str, .str b, .int _ j => .need (0 ≤ j ∧ j < b.length) (.int .u8 ((b.getD j.toNat 0).toNat : Int)) s
    | .array n e, .agg cs, .int _ j => match E.Γ e with
      | none => .fail
      | some te => match te.d.agg with
        | true => .need ((0 ≤ j ∧ j < n) ∧ n * te.size = cs.length) (.agg ((cs.drop (j.toNat * te.size)).take te.size)) s
        | false => .need ((0 ≤ j ∧ j < n) ∧ n = cs.length ∧ te.size = 1) (cs.getD j.toNat .any) s
    | _, _, _ => .fail

def sliceA (E : Env) (s : St) (T : Nat) (x : AV) (lo hi : Option AV) : Res :=
  match E.Γ T with
  | none => .fail
  | some ti => match ti.d, x with
    | .str, .str b => match lo, hi with
      | none, none => .ok (.str b) s
      | some (.int _ l), none => .need (0 ≤ l ∧ l ≤ b.length) (.str (b.drop l.toNat)) s
      | none, some (.int _ h) => .need (0 ≤ h ∧ h ≤ b.length) (.str (b.take h.toNat)) s
      | some (.int _ l), some (.int _ h) => .need ((0 ≤ h ∧ h ≤ b.length) ∧ (0 ≤ l ∧ l ≤ h)) (.str ((b.drop l.toNat).take (h.toNat - l.toNat))) s
      | _, _ => .fail
    | .slice e, .sl _ n f => match E.Γ e with
      | none => .fail
      | some te => match lo, hi with
        | none, none => .ok (.sl .no n f) s
        | some (.int _ l), none => .need ((0 ≤ l ∧ l ≤ n) ∧ ∀ i, i < n → (f i).cells.length = te.size) (.sl .no (n - l.toNat) fun i => f (l.toNat + i)) s
        | none, some (.int _ h) => .need (0 ≤ h ∧ h ≤ n) (.sl .no h.toNat f) s
        | some (.int _ l), some (.int _ h) => .need (((0 ≤ h ∧ h ≤ n) ∧ (0 ≤ l ∧ l ≤ h)) ∧ ∀ i, i < n → (f i).cells.length = te.size) (.sl .no (h.toNat - l.toNat) fun i => f (l.toNat + i)) s
        | _, _ => .fail
    | .slice e, .hs b o n sz cap => match E.Γ e with
      | none => .fail
      | some te => match lo, hi with
        | none, none => .ok (.hs b o n sz cap) s
        | some (.int _ l), none => .need ((0 ≤ l ∧ l ≤ n) ∧ te.size = sz) (.hs b (o + l.toNat) (n - l.toNat) sz (cap.map (· - l.toNat))) s
        | none, some (.int _ h) => .need ((0 ≤ h ∧ h ≤ n) ∧ te.size = sz) (.hs b o h.toNat sz cap) s
        | some (.int _ l), some (.int _ h) => .need (((0 ≤ h ∧ h ≤ n) ∧ (0 ≤ l ∧ l ≤ h)) ∧ te.size = sz) (.hs b (o + l.toNat) (h.toNat - l.toNat) sz (cap.map (· - l.toNat))) s
        | _, _ => .fail
    | _, _ => .fail

/-! ### Arithmetic, comparisons -/
def leafEq : AV → AV → Option Bool
  | .int k a, .int k' b => match decide (k = k') with | true => some (a == b) | false => none
  | .bool a, .bool b => some (a == b)
  | .str a, .str b => some (a == b)
  | _, _ => none
def eqFs (E : Env) (rec : Nat → AV → AV → Option Bool) : List (Nat × Nat × Bool) → List AV → List AV → Option Bool
  | [], _, _ => some true
  | (t, off, blank) :: fs, cs, ds => match blank with
    | true => eqFs E rec fs cs ds
    | false => match E.Γ t with
      | none => none
      | some ti => match cellsAt ti.d.agg ti.size cs off, cellsAt ti.d.agg ti.size ds off with
        | some a, some b => match rec t a b, eqFs E rec fs cs ds with
          | some p, some q => some (p && q)
          | _, _ => none
        | _, _ => none
def eqA (E : Env) : Nat → Nat → AV → AV → Option Bool
  | 0, _, _, _ => none
  | d + 1, t, x, y => match E.Γ t with
    | none => none
    | some ti => match ti.d with
      | .struct fs => match x, y, ti.eqok with
        | .agg cs, .agg ds, true => eqFs E (eqA E d) fs cs ds
        | _, _, _ => none
      | .int _ => match x, y with
        | .int .., .int .. => leafEq x y
        | _, _ => none
      | .bool => match x, y with
        | .bool _, .bool _ => leafEq x y
        | _, _ => none
      | .str => match x, y with
        | .str _, .str _ => leafEq x y
        | _, _ => none
      | _ => none
def okB (s : St) (b : Bool) : Res := .ok (.bool b) s
/-- is it told in the text? -/
def isConst : Operand → Bool
  | .const _ => true
  | _ => false
def eitherConst (x y : Operand) : Bool :=
  match isConst x with
  | true => true
  | false => isConst y
def binA (E : Env) (s : St) (op : BinOp) (T : Nat) (x y : AV) (c : Bool) : Res :=
  match x, y with
  | .int k a, .int k' b => match op with
    | .shl => .need (0 ≤ b) (.int k (k.wrap (a * 2 ^ (min b.toNat k.bits)))) s
    | .shr => .need (0 ≤ b) (.int k (a.fdiv (2 ^ (min b.toNat k.bits)))) s
    | op => match decide (k = k') with
      | false => .fail
      | true => match op with
        | .add => .ok (.int k (k.wrap (a + b))) s
        | .sub => .ok (.int k (k.wrap (a - b))) s
        | .mul => .ok (.int k (k.wrap (a * b))) s
        | .quo => .need (b ≠ 0) (.int k (k.wrap (a.tdiv b))) s
        | .rem => .need (b ≠ 0) (.int k (a.tmod b)) s
        | .and => .ok (.int k (k.wrap (BitVec.ofInt k.bits a &&& BitVec.ofInt k.bits b).toNat)) s
        | .or => .ok (.int k (k.wrap (BitVec.ofInt k.bits a ||| BitVec.ofInt k.bits b).toNat)) s
        | .xor => .ok (.int k (k.wrap (BitVec.ofInt k.bits a ^^^ BitVec.ofInt k.bits b).toNat)) s
        | .andNot => .ok (.int k (k.wrap (BitVec.ofInt k.bits a &&& ~~~ BitVec.ofInt k.bits b).toNat)) s
        | .eql => okB s (a == b)
        | .neq => okB s (a != b)
        | .lss => okB s (decide (a < b))
        | .leq => okB s (decide (a ≤ b))
        | .gtr => okB s (decide (a > b))
        | .geq => okB s (decide (a ≥ b))
        | _ => .fail
  | .str a, .str b => match op with
    | .add => .need (a.length + b.length ≤ 9223372036854775807) (.str (a ++ b)) s
    | .eql => okB s (a == b)
    | .neq => okB s (!(a == b))
    | .lss => okB s (Op.bytesLess a b)
    | .leq => okB s (Op.bytesLess a b || a == b)
    | .gtr => okB s (!(Op.bytesLess a b || a == b))
    | .geq => okB s (!Op.bytesLess a b)
    | _ => .fail
  | .bool a, .bool b => match op, tdOf E T with
    | .eql, some .bool => okB s (a == b)
    | .neq, some .bool => okB s (!(a == b))
    | _, _ => .fail
  | .agg cs, .agg ds => match op with
    | .eql => match eqA E 50 T (.agg cs) (.agg ds) with | some b => okB s b | none => .fail
    | .neq => match eqA E 50 T (.agg cs) (.agg ds) with | some b => okB s (!b) | none => .fail
    | _ => .fail
  | .nilp, .nilp => match op, tdOf E T with
    | .eql, some (.ptr _) => okB s true
    | .neq, some (.ptr _) => okB s false
    | _, _ => .fail
  | .ptr .., .nilp => match op, tdOf E T with
    | .eql, some (.ptr _) => okB s false
    | .neq, some (.ptr _) => okB s true
    | _, _ => .fail
  | .nilf, .nilf => match op, tdOf E T with
    | .eql, some .func => okB s true
    | .neq, some .func => okB s false
    | _, _ => .fail
  | .clo .., .nilf => match op, tdOf E T with
    | .eql, some .func => okB s false
    | .neq, some .func => okB s true
    | _, _ => .fail
  | .nili, .nili => match c with
    | true => match op, tdOf E T with
      | .eql, some .iface => okB s true
      | .neq, some .iface => okB s false
      | _, _ => .fail
    | false => .fail
  | .ifc .., .nili => match op, tdOf E T with
    | .eql, some .iface => okB s false
    | .neq, some .iface => okB s true
    | _, _ => .fail
  | _, _ => .fail
def unA (s : St) (op : UnOp) (x : AV) : Res :=
  match op, x with
  | .not, .bool b => okB s (!b)
  | .neg, .int k n => .ok (.int k (k.wrap (0 - n))) s
  | .xor, .int k n => .ok (.int k (k.wrap (BitVec.ofInt k.bits (if k.signed then -1 else k.max) ^^^ BitVec.ofInt k.bits n).toNat)) s
  | _, _ => .fail
/-- the byte of a cell -/
def byteOfA : AV → UInt8
  | .int _ n => UInt8.ofNat n.toNat
  | _ => 0
def isU8 : AV → Prop
  | .int .u8 _ => True
  | _ => False
instance (x : AV) : Decidable (isU8 x) :=
  match x with
  | .int k _ => match k with
    | .u8 => .isTrue trivial
    | .u16 | .u32 | .u64 | .i8 | .i16 | .i32 | .i64 => .isFalse id
  | .any | .bool _ | .str _ | .agg _ | .tup _ | .nilp | .nilm | .nilf | .nili | .sl .. | .ptr .. | .hs .. | .eptr .. | .cptr .. | .map _ | .clo .. | .ifc .. | .nxt .. => .isFalse id
def convA (E : Env) (s : St) (S D : Nat) (x : AV) : Res :=
  match tdOf E S, tdOf E D with
  | some sd, some dd => match dd, x with
    | .int k, .int _ n => .ok (.int k (k.wrap n)) s
    | .str, .str b => .ok (.str b) s
    | .str, .sl _ n f => match sd with
      | .slice e => match tdOf E e with
        | some (.int .u8) => .need (∀ i, i < n → isU8 (f i)) (.str ((List.range n).map fun i => byteOfA (f i))) s
        | _ => .fail
      | _ => .fail
    | .str, .hs i lo n sz _ => match sd, E.hp, s.h i with
      | .slice e, true, some (.arr _U sz' m f) => match tdOf E e with
        | some (.int .u8) => .need (sz = 1 ∧ sz' = 1 ∧ lo + n ≤ m ∧ ∀ j, j < n → isU8 (f (lo + j))) (.str ((List.range n).map fun j => byteOfA (f (lo + j)))) s
        | _ => .fail
      | _, _, _ => .fail
    | .slice e, .str b => match tdOf E e with
      | some (.int .u8) => match E.hp with
        | false => .ok (.sl .no b.length fun i => .int .u8 ((b.getD i 0).toNat : Int)) s
        | true => .ok (.hs s.nx 0 b.length 1 none) (s.new (.arr e 1 b.length fun i => .int .u8 ((b.getD i 0).toNat : Int)))
      | _ => .fail
    | _, _ => .fail
  | _, _ => .fail

/-! ### Maps -/
def keyEq (d : TD) (x y : AV) : Option Bool :=
  match d with
  | .int _ => match x, y with
    | .int k a, .int k' b => match decide (k = k') with | true => some (a == b) | false => none
    | _, _ => none
  | .str => match x, y with
    | .str a, .str b => some (a == b)
    | _, _ => none
  | .bool => match x, y with
    | .bool a, .bool b => some (a == b)
    | _, _ => none
  | _ => none
/-- the value at a key (and whether it is there) -/
def findA (d : TD) (key : AV) (zero : AV) : List (AV × AV) → Option (AV × Bool)
  | [] => some (zero, false)
  | (k, v) :: es => match keyEq d key k with
    | some b => match b with
      | true => some (v, true)
      | false => findA d key zero es
    | none => none
def isKeyA (d : TD) (x : AV) : Bool :=
  match d, x with
  | .int _, .int .. => true
  | .str, .str _ => true
  | .bool, .bool _ => true
  | _, _ => false
/-- of a map to numbers: what is at a key, whether it is there, whether this may be told so -/
def tabN (d : TD) (key zero : AV) (es : List (AV × AV)) : Int :=
  match findA d key zero es with
  | some (.int _ n, _) => n
  | _ => 0
def tabB (d : TD) (key zero : AV) (es : List (AV × AV)) : Bool :=
  match findA d key zero es with
  | some (_, b) => b
  | none => false
def tabOk (d : TD) (key zero : AV) (q : IntKind) (es : List (AV × AV)) : Bool :=
  match findA d key zero es with
  | some (.int k _, _) => decide (k = q)
  | _ => false
theorem tabOk_eq {d : TD} {key zero : AV} {q : IntKind} {es : List (AV × AV)} (h : tabOk d key zero q es = true) : findA d key zero es = some (.int q (tabN d key zero es), tabB d key zero es) := by
  unfold tabOk at h
  unfold tabN tabB
  split at h
  · rename_i k n b hf
    simp only [decide_eq_true_eq] at h
    subst h
    rw [hf]
  · cases h
def lookupA (E : Env) (s : St) (T : Nat) (x key : AV) (ok : Bool) : Res :=
  match E.Γ T with
  | none => .fail
  | some ti => match ti.d with
    | .map kt e => match E.Γ e, tdOf E kt with
      | some te, some kd => match isKeyA kd key with
        | false => .fail
        | true => match x with
          | .map i => match s.h i with
            | some (.map es) => match E.tk T with
              | none => match findA kd key te.zero es with
                | some (v, b) => match ok with
                  | true => .ok (.tup [v, .bool b]) s
                  | false => .ok v s
                | none => .fail
              | some q => match ok with
                | true => .need (tabOk kd key te.zero q es = true) (.tup [.int q (tabN kd key te.zero es), .bool (tabB kd key te.zero es)]) s
                | false => .need (tabOk kd key te.zero q es = true) (.int q (tabN kd key te.zero es)) s
            | _ => .fail
          | _ => .fail
      | _, _ => .fail
    | _ => .fail
/-- the entries behind a store -/
def putA (d : TD) (key val : AV) : List (AV × AV) → Option (List (AV × AV))
  | [] => some [(key, val)]
  | (k, v) :: es => match keyEq d key k with
    | some b => match b with
      | true => some ((key, val) :: es)
      | false => match putA d key val es with
        | some l => some ((k, v) :: l)
        | none => none
    | none => none
def mapSetA (E : Env) (s : St) (T : Nat) (x key val : AV) : Res :=
  match E.Γ T with
  | none => .fail
  | some ti => match ti.d with
    | .map kt _ => match tdOf E kt with
      | some kd => match isKeyA kd key with
        | false => .fail
        | true => match x with
          | .map i => match s.h i with
            | some (.map es) => match E.tk T with
              | none => match putA kd key val es with
                | some l => .ok (.tup []) (s.setB i (.map l))
                | none => .fail
              | some _ => .need ((putA kd key val es).isSome = true) (.tup []) (s.setB i (.map ((putA kd key val es).getD [])))
            | _ => .fail
          | _ => .fail
      | _ => .fail
    | _ => .fail

/-! ### Appending -/
def St.tokSet (s : St) (t : Nat) (n : Nat × Nat) : St :=
  match s with
  | ⟨m, tt, h, nx, k, nk⟩ => ⟨m, tt, h, nx, upd k t (some n), nk⟩
def St.tokNew (s : St) (n : Nat × Nat) : St :=
  match s with
  | ⟨m, tt, h, nx, k, nk⟩ => ⟨m, tt, h, nx, upd k nk (some n), nk + 1⟩
/-- the elements behind an append -/
def joinF (n : Nat) (f : Nat → AV) (g : Nat → AV) : Nat → AV := fun i => match Nat.blt i n with | true => f i | false => g (i - n)
/-- a nil slice has no room -/
def tighten : AV → AV
  | .sl .nil n f => .sl .tight n f
  | x => x
def appendB (E : Env) (s : St) (T xT : Nat) (x y : AV) : Res :=
  match E.Γ T, tdOf E xT with
  | some ti, some xd => match ti.d with
    | .slice e => match E.Γ e with
      | none => .fail
      | some te =>
        match xd, x, y with
        | .slice _, .sl .tight n f, .sl _ m g => .need (0 < te.size ∧ te.zero.cells.length = te.size ∧ (n + m) * te.bytes ≤ 140737488355328 ∧ n + m ≤ 140737488355328 ∧ (∀ i, i < n → (f i).cells.length = te.size) ∧ (∀ i, i < m → (g i).cells.length = te.size) ∧ (∀ i, i < m → ones (g i).cells = true))
            (.sl (.tok s.nk) (n + m) (joinF n f g)) (s.tokNew (n + m, e))
        | .slice _, .sl (.tok t) n f, .sl _ m g => .need (s.k t = some (n, e) ∧ 0 < te.size ∧ te.zero.cells.length = te.size ∧ (n + m) * te.bytes ≤ 140737488355328 ∧ n + m ≤ 140737488355328 ∧ (∀ i, i < n → (f i).cells.length = te.size) ∧ (∀ i, i < m → (g i).cells.length = te.size) ∧ (∀ i, i < m → ones (g i).cells = true))
            (.sl (.tok t) (n + m) (joinF n f g)) (s.tokSet t (n + m, e))
        | _, _, _ => .fail
    | _ => .fail
  | _, _ => .fail
/-- a row grown: by a new name; the old one is no more -/
def St.grow (s : St) (i : Nat) (b : Blk) : St :=
  match s with
  | ⟨n, t, h, nx, k, nk⟩ => ⟨n, t, upd (upd h i none) nx (some b), nx + 1, k, nk⟩
/-- a text's bytes -/
def strF (b : List UInt8) : Nat → AV := fun j => .int .u8 ((b.getD j 0).toNat : Int)
/-- Appending to a row of one's own. -/
def appendG (E : Env) (s : St) (T xT : Nat) (x y : AV) : Res :=
  match E.Γ T, tdOf E xT with
  | some ti, some xd => match ti.d with
    | .slice e => match E.Γ e with
      | none => .fail
      | some te =>
        match xd with
        | .slice _ => match y with
          | .sl _ m g => match x with
            | .sl .nil n _ => .need (n = 0 ∧ 0 < te.size ∧ te.zero.cells.length = te.size ∧ m * te.bytes ≤ 140737488355328 ∧ m ≤ 140737488355328 ∧ (∀ i, i < m → (g i).cells.length = te.size) ∧ (∀ i, i < m → ones (g i).cells = true))
                (.hs s.nx 0 m te.size none) (s.new (.arr e te.size m g))
            | .hs i lo n sz _ => match s.h i with
              | some (.arr U' sz' n' f) => .need (U' = e ∧ lo = 0 ∧ sz = te.size ∧ sz' = te.size ∧ n ≤ n' ∧ 0 < te.size ∧ te.zero.cells.length = te.size ∧ (n + m) * te.bytes ≤ 140737488355328 ∧ n + m ≤ 140737488355328 ∧ (∀ i, i < m → (g i).cells.length = te.size) ∧ (∀ i, i < m → ones (g i).cells = true))
                  (.hs s.nx 0 (n + m) te.size none) (s.grow i (.arr e te.size (n + m) (joinF n f g)))
              | _ => .fail
            | _ => .fail
          | .hs i2 lo2 m sz2 _ => match s.h i2 with
            | some (.arr _U3 sz3 n3 g) => match x with
              | .sl .nil n _ => .need (n = 0 ∧ sz2 = te.size ∧ sz3 = te.size ∧ lo2 + m ≤ n3 ∧ 0 < te.size ∧ te.zero.cells.length = te.size ∧ m * te.bytes ≤ 140737488355328 ∧ m ≤ 140737488355328)
                  (.hs s.nx 0 m te.size none) (s.new (.arr e te.size m fun j => g (lo2 + j)))
              | .hs i lo n sz _ => match s.h i with
                | some (.arr U' sz' n' f) => .need (U' = e ∧ lo = 0 ∧ sz = te.size ∧ sz' = te.size ∧ n ≤ n' ∧ sz2 = te.size ∧ sz3 = te.size ∧ lo2 + m ≤ n3 ∧ 0 < te.size ∧ te.zero.cells.length = te.size ∧ (n + m) * te.bytes ≤ 140737488355328 ∧ n + m ≤ 140737488355328 ∧ (∀ j, j < m → ones (g (lo2 + j)).cells = true))
                    (.hs s.nx 0 (n + m) te.size none) (s.grow i (.arr e te.size (n + m) (joinF n f fun j => g (lo2 + j))))
                | _ => .fail
              | _ => .fail
            | _ => .fail
          | _ => .fail
        | .str => match y with
          | .str b => match x with
            | .sl .nil n _ => .need (n = 0 ∧ te.size = 1 ∧ te.zero.cells.length = te.size ∧ b.length * te.bytes ≤ 140737488355328 ∧ b.length ≤ 140737488355328)
                (.hs s.nx 0 b.length 1 none) (s.new (.arr e 1 b.length (strF b)))
            | .hs i lo n sz _ => match s.h i with
              | some (.arr U' sz' n' f) => .need (U' = e ∧ lo = 0 ∧ sz = 1 ∧ sz' = 1 ∧ te.size = 1 ∧ n ≤ n' ∧ te.zero.cells.length = te.size ∧ (n + b.length) * te.bytes ≤ 140737488355328 ∧ n + b.length ≤ 140737488355328)
                  (.hs s.nx 0 (n + b.length) 1 none) (s.grow i (.arr e 1 (n + b.length) (joinF n f (strF b))))
              | _ => .fail
            | _ => .fail
          | _ => .fail
        | _ => .fail
    | _ => .fail
  | _, _ => .fail
/-- is it a row of one's own? -/
def isHs : AV → Bool
  | .hs .. => true
  | _ => false
def isTok : AV → Bool
  | .sl tag _ _ => match tag with
    | .tok _ => true
    | _ => false
  | _ => false
def appendA (E : Env) (s : St) (T xT : Nat) (x y : AV) : Res :=
  match E.ap with
  | true => appendB E s T xT (tighten x) y
  | false => match E.gp with
    | true => match isTok x with
      | true => appendB E s T xT x y
      | false => appendG E s T xT x y
    | false => match isHs x, isHs y with
      | false, false => appendB E s T xT (tighten x) y
      | _, _ => appendG E s T xT x y
def makeSliceA (E : Env) (s : St) (T : Nat) (l c : AV) : Res :=
  match E.Γ T with
  | none => .fail
  | some ti => match ti.d with
    | .slice e => match E.Γ e with
      | none => .fail
      | some te => match l, c with
        | .int .i64 n, .int .i64 m => match E.hp with
          | false => .need (n = m ∧ 0 ≤ n ∧ te.bytes * n ≤ 281474976710656 ∧ n ≤ 9223372036854775807 ∧ te.zero.cells.length = te.size ∧ 0 < te.size) (.sl .tight n.toNat fun _ => te.zero) s
          | true => .need (n = m ∧ 0 ≤ n ∧ te.bytes * n ≤ 281474976710656 ∧ n ≤ 9223372036854775807 ∧ te.zero.cells.length = te.size ∧ 0 < te.size) (.hs s.nx 0 n.toNat te.size (some n.toNat)) (s.new (.arr e te.size n.toNat fun _ => te.zero))
        | _, _ => .fail
    | _ => .fail

/-! ### Calls -/
def callA (E : Env) (s : St) (f : Nat) (args : List AV) : Res :=
  match pureL args with
  | none => .fail
  | some as' => match E.T f as' with
    | .no => .fail
    | .yes r => .ok r s
    | @CR.need C d r => @Res.need C d r s
/-- an element, as it may be told of -/
def snapE (sz : Nat) (x : AV) : AV :=
  match pureOf x with
  | some y => y
  | none => .agg (List.replicate sz .any)
def frzL (g : AV → Option AV) : List AV → Option (List AV)
  | [] => some []
  | a :: as => match g a, frzL g as with
    | some x, some xs => some (x :: xs)
    | _, _ => none
/-- What may leave a call of what is one's own: as it now is, for good. -/
def frz (h : Nat → Option Blk) : Nat → AV → Option AV
  | 0, x => pureOf x
  | k + 1, x => match x with
    | .ptr i off => match h i with
      | some (.cells cs) => match frzL (frz h k) cs with
        | some l => some (.cptr l off)
        | none => none
      | _ => none
    | .hs i lo n sz _ => match h i with
      | some (.arr _U sz' m f) => match Nat.beq sz sz', Nat.ble (lo + n) m with
        | true, true => some (.sl .no n fun j => match frz h k (f (lo + j)) with | some y => y | none => .agg (List.replicate sz .any))
        | _, _ => none
      | _ => none
    | .agg cs => match frzL (frz h k) cs with
      | some l => some (.agg l)
      | none => none
    | .tup cs => match frzL (frz h k) cs with
      | some l => some (.tup l)
      | none => none
    | x => pureOf x
/-- What a call through a function's value may be handed: a pointer to a block of one's own as what the block holds now. -/
def snapA (h : Nat → Option Blk) : AV → Option AV
  | .ptr i off => match h i with
    | some (.cells cs) => match pureL cs with
      | some l => some (.cptr l off)
      | none => none
    | _ => none
  | .hs i lo n sz _ => match h i with
    | some (.arr _U sz' m f) => match Nat.beq sz sz', Nat.ble (lo + n) m with
      | true, true => some (.sl .no n fun j => snapE sz (f (lo + j)))
      | _, _ => none
    | _ => none
  | v => pureOf v
def snapL (h : Nat → Option Blk) : List AV → Option (List AV)
  | [] => some []
  | a :: as => match snapA h a, snapL h as with
    | some x, some xs => some (x :: xs)
    | _, _ => none
mutual
/-- It speaks of no memory. -/
def noRef : AV → Bool
  | .agg cs => noRefL cs
  | .tup cs => noRefL cs
  | .ifc _ v => noRef v
  | .sl .. | .ptr .. | .hs .. | .eptr .. | .cptr .. | .map _ | .clo .. => false
  | _ => true
def noRefL : List AV → Bool
  | [] => true
  | a :: as => match noRef a with
    | true => noRefL as
    | false => false
end
def callS (E : Env) (s : St) (f : Nat) (args : List AV) : Res :=
  match pureL args with
  | some _ => callA E s f args
  | none => match snapL s.h args with
    | none => .fail
    | some as' => match E.T f as' with
      | .no => .fail
      | .yes r => match noRef r with
        | true => .ok r s
        | false => .fail
      | @CR.need C d r => match noRef r with
        | true => @Res.need C d r s
        | false => .fail
def isTmp : Operand → Bool
  | .tmp _ => true
  | _ => false
def lenA (E : Env) (s : St) (T : Nat) (x : AV) : Res :=
  match tdOf E T, x with
  | some .str, .str b => .ok (.int .i64 b.length) s
  | some (.slice _), .sl _ n _ => .ok (.int .i64 n) s
  | some (.slice _), .hs _ _ n _ _ => .ok (.int .i64 n) s
  | some (.array n _), _ => .ok (.int .i64 n) s
  | some (.map _ _), .nilm => .ok (.int .i64 0) s
  | some (.map _ _), .map i => match s.h i with
    | some (.map es) => .ok (.int .i64 es.length) s
    | _ => .fail
  | _, _ => .fail
def minA (s : St) : List AV → Res
  | [.int k x, .int _ y] => .ok (.int k (if y < x then y else x)) s
  | _ => .fail
def maxA (s : St) : List AV → Res
  | [.int k x, .int _ y] => .ok (.int k (if y > x then y else x)) s
  | _ => .fail

def parts (s : St) : List (Nat × Operand) → Option (List (Nat × AV))
  | [] => some []
  | (i, x) :: l => match ev s x, parts s l with
    | some a, some r => some ((i, a) :: r)
    | _, _ => none
def partsF {α : Sort _} (s : St) : List (Nat × Operand) → α → (List (Nat × AV) → α) → α
  | [], _, k => k []
  | (i, x) :: l, fail, k => evF s x fail fun a => partsF s l fail fun r => k ((i, a) :: r)
theorem partsF_eq {α : Sort _} (s : St) : ∀ (l : List (Nat × Operand)) (fail : α) (k : List (Nat × AV) → α), partsF s l fail k = match parts s l with | some v => k v | none => fail
  | [], _, _ => rfl
  | (i, x) :: l, fail, k => by
    rw [partsF, evF_eq]
    simp only [parts]
    cases ev s x with
    | none => rfl
    | some v =>
      simp only [partsF_eq s l]
      cases parts s l <;> rfl
def evo (s : St) : Option Operand → Option (Option AV)
  | none => some none
  | some x => evF s x none fun a => some (some a)

/-- Iterators of texts. -/
def rangeA (E : Env) (s : St) (T : Nat) (x : AV) : Res :=
  match tdOf E T, x with
  | some .str, .str b => .ok (.ptr s.nx 0) (s.new (.siter b 0))
  | _, _ => .fail
def stepI (b : List UInt8) (p : Nat) : Nat :=
  match Nat.blt p b.length with
  | true => p + (Utf8.decode ⟨b.toArray⟩ p).2
  | false => p
def nextA (s : St) (x : AV) : Res :=
  match x with
  | .ptr i off => match Nat.beq off 0, s.h i with
    | true, some (.siter b p) => .ok (.nxt (Nat.blt p b.length) p (Utf8.decode ⟨b.toArray⟩ p).1) (s.setB i (.siter b (stepI b p)))
    | _, _ => .fail
  | _ => .fail
def partN (s : St) (b : Bool) (p : Nat) (c : Int) (i : Nat) : Res :=
  match i with
  | 0 => .ok (.bool b) s
  | 1 => .need (b = true) (.int .i64 p) s
  | 2 => .need (b = true) (.int .i32 c) s
  | _ => .fail
def opF (E : Env) (op : Op) (s : St) : Res :=
  match op with
  | .move x | .assign x => evR s x
  | .pick c a b => evF s c .fail fun v => match v with
    | .bool true => evR s a
    | .bool false => evR s b
    | _ => .fail
  | .alloc T => allocA E s T
  | .box _ x => evF s x .fail fun v => boxA s v
  | .build T ps => partsF s ps.toList .fail fun l => Res.of s (buildA E T l)
  | .buildSlice T n ps => partsF s ps.toList .fail fun l => match E.bp T with
    | false => Res.of s (buildSliceA E T n l)
    | true => buildRowA E s T n l
  | .load T x => evF s x .fail fun v => loadR E s T v
  | .store T x y => evF s x .fail fun a => evF s y .fail fun v => storeA E s T a v
  | .nilCheck x => evF s x .fail fun v => match v with
    | .ptr i o => .ok (.ptr i o) s
    | .cptr cs o => .ok (.cptr cs o) s
    | .eptr i j sz o => .ok (.eptr i j sz o) s
    | _ => .fail
  | .binOp op T x y _ => evF s x .fail fun a => evF s y .fail fun b => binA E s op T a b (eitherConst x y)
  | .unOp op _ x => evF s x .fail fun a => unA s op a
  | .convert S D x => evF s x .fail fun a => convA E s S D a
  | .makeFunc (.func f) first cap => evsF s first.toList .fail fun l => evsF s cap.toList .fail fun m => .ok (.clo f l m) s
  | .makeMap _ none => .ok (.map s.nx) (s.new (.map []))
  | .makeSlice T l c => evF s l .fail fun a => evF s c .fail fun b => makeSliceA E s T a b
  | .slice T x lo hi none => evF s x .fail fun a => match evo s lo, evo s hi with
    | some l, some h => sliceA E s T a l h
    | _, _ => .fail
  | .fieldAddr S x f => evF s x .fail fun a => Res.of s (fieldAddrA E S a f)
  | .field S x f => evF s x .fail fun a => Res.of s (fieldA E S a f)
  | .indexAddr T x i => evF s x .fail fun a => evF s i .fail fun b => indexAddrA E s T a b
  | .index T x i => evF s x .fail fun a => evF s i .fail fun b => indexA E s T a b
  | .lookup T x i ok => evF s x .fail fun a => evF s i .fail fun b => lookupA E s T a b ok
  | .mapUpdate T m k x | .insert T m k x => evF s m .fail fun a => evF s k .fail fun b => evF s x .fail fun c => mapSetA E s T a b c
  | .extract x i => evF s x .fail fun v => match v with
    | .tup vs => Res.of s vs[i]?
    | .nxt b p c => partN s b p c i
    | _ => .fail
  | .range T x => evF s x .fail fun v => rangeA E s T v
  | .next x true => evF s x .fail fun v => nextA s v
  | .call c => evsF s c.args.toList .fail fun args => match c.callee with
      | .value f => evF s f .fail fun v => match v with
        | .clo g first cap => match isTmp f with
          | true => callS E s g (first ++ args ++ cap)
          | false => callA E s g (first ++ args ++ cap)
        | _ => .fail
      | .builtin .len => match args, c.argTypes[0]? with
        | [x], some T => lenA E s T x
        | _, _ => .fail
      | .builtin .min => minA s args
      | .builtin .max => maxA s args
      | .builtin .append => match args, c.argTypes[0]?, c.argTypes[1]? with
        | [x, y], some T, some xT => appendA E s T xT x y
        | _, _, _ => .fail
      | _ => .fail
  | _ => .fail

/-! ### Calls that turn memory -/
def St.mem (s : St) : St :=
  match s with
  | ⟨_, _, h, nx, k, nk⟩ => ⟨0, .leaf, h, nx, k, nk⟩
/-- the slots of the one, the memory of the other -/
def St.onto (s m : St) : St :=
  match s, m with
  | ⟨n, t, _, _, _, _⟩, ⟨_, _, h, nx, k, nk⟩ => ⟨n, t, fun i => match Nat.blt i nx with | true => h i | false => none, nx, k, nk⟩
def Res.onto (s : St) : Res → Res
  | .fail => .fail
  | .ok v m => .ok v (s.onto m)
  | @Res.need C d v m => @Res.need C d v (s.onto m)
def isH (E : Env) : Op → Bool
  | .call { callee := .value (.func g), .. } => E.hf g
  | .call { callee := .value (.tmp _), .. } => E.hc
  | _ => false
def hcallA (E : Env) (s : St) : Op → Res
  | .call { callee := .value (.func g), args := xs, .. } => evsF s xs.toList .fail fun args => (E.H g args s.mem).onto s
  | .call { callee := .value (.tmp t), args := xs, .. } => evF s (.tmp t) .fail fun v => evsF s xs.toList .fail fun args => match v with
    | .clo g first cap => match E.hf g with
      | true => (E.H g (first ++ args ++ cap) s.mem).onto s
      | false => callS E s g (first ++ args ++ cap)
    | _ => .fail
  | _ => .fail
def opG (E : Env) (op : Op) (s : St) : Res :=
  match isH E op with
  | true => hcallA E s op
  | false => opF E op s

/-! ### Code -/
/-- What has been decided of slots within a region. -/
def look : List (Nat × Bool) → Nat → Option Bool
  | [], _ => none
  | (u, b) :: D, t => match Nat.beq u t with
    | true => some b
    | false => look D t
def forget : List (Nat × Bool) → Option Nat → List (Nat × Bool)
  | D, none => D
  | [], some _ => []
  | (u, b) :: D, some d => match Nat.beq u d with
    | true => forget D (some d)
    | false => (u, b) :: forget D (some d)
def branch (s : St) (D : List (Nat × Bool)) (t : Nat) (p : Bool → List (Nat × Bool) → Prop) (skip : Prop) : Prop :=
  match look D t with
  | some b => p b D
  | none => match s.t.get t with
    | .bool b => BR (b = true) (b = false) (p true ((t, true) :: D)) (p false ((t, false) :: D))
    | .tup _ => skip
    | _ => False
def dstAt (ops : List Oper) (j : Nat) : Option Nat :=
  match ops[j]? with
  | some o => o.dst
  | none => none
def runVC (E : Env) (o : Oper) (s : St) (D : List (Nat × Bool)) (K : St → List (Nat × Bool) → Prop) : Prop :=
  match dstOk s o.dst with
  | false => False
  | true => match o.op with
    | .pick (.tmp c) a b => branch s D c (fun x D' => (evR s (match x with | true => a | false => b)).all fun v s' => s'.putK o.dst v fun s'' => K s'' (forget D' o.dst)) False
    | op => (opG E op s).all fun v s' => s'.putK o.dst v fun s'' => K s'' (forget D o.dst)
def skipVC (o : Oper) (s : St) (D : List (Nat × Bool)) (K : St → List (Nat × Bool) → Prop) : Prop :=
  match dstOk s o.dst with
  | false => False
  | true => s.putK o.dst (.tup []) fun s'' => K s'' (forget D o.dst)
def opsVC (E : Env) (ops : List Oper) : List Oper → St → List (Nat × Bool) → (St → Prop) → Prop
  | [], s, _, K => K s
  | o :: rest, s, D, K => match o.guard with
    | none => runVC E o s D fun s' D' => opsVC E ops rest s' D' K
    | some (j, want) => match dstAt ops j with
      | none => False
      | some t => branch s D t (fun b D' => match b, want with
          | true, true => runVC E o s D' fun s' D'' => opsVC E ops rest s' D'' K
          | false, false => runVC E o s D' fun s' D'' => opsVC E ops rest s' D'' K
          | _, _ => skipVC o s D' fun s' D'' => opsVC E ops rest s' D'' K)
        (skipVC o s D fun s' D' => opsVC E ops rest s' D' K)

/-! ### Regions that draw their order -/
def usesT : List Operand → Nat → Bool
  | [], _ => false
  | .tmp u :: xs, t => match Nat.beq u t with | true => true | false => usesT xs t
  | _ :: xs, t => usesT xs t
/-- what an operation looks at: its operands, its guard -/
def looksT (ops : List Oper) (o : Oper) (t : Nat) : Bool :=
  match usesT o.op.operands.toList t with
  | true => true
  | false => match o.guard with
    | none => false
    | some (j, _) => match dstAt ops j with
      | some u => Nat.beq u t
      | none => false
/-- does an operation's slot stand apart from what another looks at and writes? -/
def apartT (ops : List Oper) (x y : Oper) : Bool :=
  (match x.dst with
   | none => true
   | some d => !looksT ops y d && (match y.dst with | some e => !Nat.beq d e | none => true)) &&
  (match y.dst with
   | none => true
   | some d => !looksT ops x d)
/-- 0: it turns no memory of the code's own, and asks none; 1: it asks; 2: it makes a block; 3: it writes; 4: it turns owners alone. -/
def effC (E : Env) (S D : Nat) : Nat :=
  match E.hp with
  | false => 0
  | true => match tdOf E S, tdOf E D with
    | _, some (.slice _) => 2
    | some (.slice _), _ => 1
    | _, _ => 0
def effect (E : Env) : Op → Nat
  | .load .. | .lookup .. => 1
  | .makeSlice .. => match E.hp with
    | true => 2
    | false => 0
  | .buildSlice T .. => match E.bp T with
    | true => 2
    | false => 0
  | .convert S D _ => effC E S D
  | .call { callee := .builtin .len, .. } => 1
  | .call { callee := .value (.tmp _), .. } => 1
  | .call { callee := .builtin .append, .. } => match E.ap with
    | true => 4
    | false => 3
  | .alloc _ | .box .. | .makeMap .. | .range .. => 2
  | .next .. | .store .. | .mapUpdate .. | .insert .. | .mapEntry .. | .entryStore .. => 3
  | _ => 0
def effH (E : Env) (op : Op) : Nat :=
  match isH E op with
  | true => 3
  | false => effect E op
def clash (x y : Nat) : Bool :=
  match x, y with
  | 0, _ => false
  | _, 0 => false
  | 1, 1 => false
  | 1, 2 => false
  | 1, 4 => false
  | 2, 4 => false
  | 4, 1 => false
  | 4, 2 => false
  | _, _ => true
/-- what must have come ahead of an operation (through others, too): a bit each -/
def closE (acc : List Nat) : List Edge → Nat
  | [] => 0
  | e :: es => match Region.binds .any e with
    | true => (2 ^ e.on ||| acc.getD e.on 0) ||| closE acc es
    | false => closE acc es
def closL : List Oper → List Nat → List Nat
  | [], acc => acc
  | o :: os, acc => closL os (acc ++ [closE acc o.after.toList])
def edgesBack (i : Nat) : List Edge → Bool
  | [] => true
  | e :: es => (!Region.binds .any e || Nat.blt e.on i) && edgesBack i es
def backward : List Oper → Nat → Bool
  | [], _ => true
  | o :: os, i => edgesBack i o.after.toList && backward os (i + 1)
def pairOk (E : Env) (ops : List Oper) (cl : List Nat) (j i : Nat) : Bool :=
  (cl.getD i 0).testBit j || (match ops[j]?, ops[i]? with
  | some x, some y => apartT ops x y && !clash (effH E x.op) (effH E y.op)
  | _, _ => true)
/-- two new blocks side by side, that any order may bring -/
def isAllocO (o : Oper) : Bool := match o.op with
  | .alloc _ => true
  | _ => false
def headAlloc : List Oper → Bool
  | [] => false
  | o :: _ => isAllocO o
def allocPair : List Oper → Nat → Option Nat
  | [], _ => none
  | o :: os, k => match isAllocO o with
    | true => match headAlloc os with
      | true => some k
      | false => allocPair os (k + 1)
    | false => allocPair os (k + 1)
def swapAt : Nat → List Oper → List Oper
  | 0, x :: y :: l => y :: x :: l
  | n + 1, x :: l => x :: swapAt n l
  | _, l => l
/-- as `commutes`, but for the two from p on -/
def commutesX (E : Env) (ops : List Oper) (p : Nat) : Bool :=
  backward ops 0 && Nat.blt (p + 1) ops.length && (List.range ops.length).all fun i => (List.range i).all fun j => pairOk E ops (closL ops []) j i || (Nat.beq j p && Nat.beq i (p + 1))
/-- of each two operations: they do not touch one another, or the one comes ahead of the other in any order -/
def commutes (E : Env) (ops : List Oper) : Bool :=
  let cl := closL ops []
  backward ops 0 && (List.range ops.length).all fun i => (List.range i).all fun j => pairOk E ops cl j i
end Go.Ab
