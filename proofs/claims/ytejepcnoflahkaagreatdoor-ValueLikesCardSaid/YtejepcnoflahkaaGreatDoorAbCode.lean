/- The symbolic evaluator: code: what must be shown of it. -/
import Derived.Test.YtejepcnoflahkaaGreatDoorAbDefs
namespace Go.Ab

/-- What a piece of code does to whatever an abstract state stands for. -/
def SemC (P : Program) (G : World → Prop) (c : Code) (s : St) (Q : Exit → St → Prop) : Prop :=
  ∀ a X, GB G X → Rel s a X → c.wp P (fun e a' w' => ∃ s' Y, Y.w = w' ∧ Q e s' ∧ Rel s' a' Y ∧ Fr X Y) a X.w

/-- A loop (where the evaluator stops). -/
structure LoopVC (P : Program) (G : World → Prop) (b : Code) (s : St) (Q : Exit → St → Prop) : Prop where
  sem : SemC P G (.loop b) s Q

/-- What must be shown of a piece of code. -/
def vc (P : Program) (E : Env) : Code → St → (Exit → St → Prop) → Prop
  | .skip, s, Q => Q .normal s
  | .region _ ops draw, s, Q => match draw with
    | false => opsVC E ops.toList ops.toList s [] (Q .normal)
    | true => match allocPair ops.toList 0 with
      | none => BR True True (commutes E ops.toList = true) (opsVC E ops.toList ops.toList s [] (Q .normal))
      | some p => BR True True (commutesX E ops.toList p = true) (BR True True (opsVC E ops.toList ops.toList s [] (Q .normal)) (opsVC E ops.toList (swapAt p ops.toList) s [] (Q .normal)))
  | .seq a b, s, Q => vc P E a s fun e s' => match e with
    | .normal => vc P E b s' Q
    | e => Q e s'
  | .cond c a b, s, Q => evF s c False fun v => match v with
    | .bool x => BR (x = true) (x = false) (vc P E a s Q) (vc P E b s Q)
    | _ => False
  | .block id b, s, Q => vc P E b s fun e s' => match e with
    | .exit id' => match Nat.beq id' id with
      | true => Q .normal s'
      | false => Q (.exit id') s'
    | e => Q e s'
  | .loop b, s, Q => LoopVC P E.G b s Q
  | .exit id, s, Q => Q (.exit id) s
  | .ret, s, Q => Q .ret s
  | _, _, _ => False

/-- Called with data that read so it returns data that read so; nothing that was there has turned. -/
def PC (P : Program) (G : World → Prop) (f : FuncId) (args : List AV) (r : AV) : Prop :=
  ∀ w L cargs, G w → RepL (Cx.bare w L) true args cargs → Calls P f cargs.toArray w fun e w' =>
    ∃ cv L', e = .returned cv ∧ Rep (Cx.bare w' L') true r cv ∧ RowKit.Below w.heap.size w w' ∧ ∀ b, b < w.heap.size → L' b = L b

/-- What a state says of memory. -/
structure HRel (s : St) (X : Cx) : Prop where
  heap : ∀ i blk, s.h i = some blk → i < s.nx ∧ BlkAt X i blk
  ow : ∀ i blk b, s.h i = some blk → X.μ i = some b → X.own b = some (.inl i) ∧ X.L b = some 0
  mu : ∀ i b, X.μ i = some b → i < s.nx ∧ b < X.w.heap.size
  kap : ∀ t, X.κ t = s.k t
  kn : ∀ t len, s.k t = some len → t < s.nk
  tok : ∀ t b cap sz, X.τ t = some (b, cap, sz) → ∃ len T cs, s.k t = some (len, T) ∧ (0 < sz ∧ 0 < len) ∧ X.w.heap[b]? = some (.cells cs T (0, 0)) ∧
    cs.size = cap * sz ∧ len ≤ cap ∧ X.L b = some (len * sz) ∧ X.own b = some (.inr t)

/-- Called upon such a memory with data that read so it returns data that read so upon that one. -/
def HC (P : Program) (G : World → Prop) (f : FuncId) (args : List AV) (m : St) (r : AV) (m' : St) : Prop :=
  ∀ X cargs, GB G X → HRel m X → RepL X false args cargs → Calls P f cargs.toArray X.w fun e w' =>
    ∃ cv Y, e = .returned cv ∧ Y.w = w' ∧ HRel m' Y ∧ Rep Y false r cv ∧ Fr X Y

def ttOf (t : TT) (i : Nat) : List AV → TT
  | [] => t
  | a :: l => ttOf (t.set i a) (i + 1) l

def St.enter (ntmps : Nat) (args : List AV) : St :=
  ⟨max ntmps args.length, ttOf .leaf 0 args, fun _ => none, 0, fun _ => none, 0⟩
def St.enterH (m : St) (ntmps : Nat) (args : List AV) : St :=
  match m with
  | ⟨_, _, h, nx, k, nk⟩ => ⟨max ntmps args.length, ttOf .leaf 0 args, h, nx, k, nk⟩

def resA1 (E : Env) (s : St) : ResultVar → Option AV
  | .tmp t => some (s.t.get t)
  | .cell a T => loadA E s T (s.t.get a)
def resAL (E : Env) (s : St) : List ResultVar → Option (List AV)
  | [] => some []
  | x :: xs => match resA1 E s x, resAL E s xs with
    | some a, some as => some (a :: as)
    | _, _ => none
/-- the result, as it may leave the call -/
def resA (E : Env) (s : St) (rs : List ResultVar) : Option AV :=
  match resAL E s rs with
  | some [a] => match pureOf a with
    | some r => some r
    | none => frz s.h 20 a
  | some l => match pureOf (.tup l) with
    | some r => some r
    | none => frz s.h 20 (.tup l)
  | none => none

/-- the result, as it stands -/
def resH (E : Env) (s : St) (rs : List ResultVar) : Option AV :=
  match resAL E s rs with
  | some [a] => some a
  | some l => some (.tup l)
  | none => none

/-- What must be shown of a function that turns memory. -/
def fnVCH (P : Program) (E : Env) (fn : Func) (args : List AV) (m : St) (R : AV → St → Prop) : Prop :=
  match fn.body with
  | none => False
  | some c => vc P E c (m.enterH fn.ntmps args) fun e s => match e with
    | .ret | .normal => match resH E s fn.results.toList with
      | some r => R r s.mem
      | none => False
    | _ => False

/-- What must be shown of a function. -/
def fnVC (P : Program) (E : Env) (fn : Func) (args : List AV) (R : AV → Prop) : Prop :=
  match fn.body with
  | none => False
  | some c => vc P E c (St.enter fn.ntmps args) fun e s => match e with
    | .ret | .normal => match resA E s fn.results.toList with
      | some r => R r
      | none => False
    | _ => False

end Go.Ab
