/- The symbolic evaluator: environments, put together call by call. -/
import Derived.Test.YtejepcnoflahkaaGreatDoorAbLoop
namespace Go.Ab
set_option linter.unusedVariables false

/-- The answer is this one (a goal that the evaluator stops at). -/
structure Fini {α : Type} (a b : α) : Prop where
  eq : a = b

def Env.base (Γ : Nat → Option TI) (G : World → Prop) : Env := { Γ := Γ, T := fun _ _ => .no, G := G }
theorem Env.base_ok {P : Program} {Γ : Nat → Option TI} {G : World → Prop} (h : GOk P Γ) (hs : ∀ w w', G w → RowKit.Below w.heap.size w w' → G w') : EnvOk P (Env.base Γ G) :=
  ⟨h, hs, fun _ _ => trivial, fun _ _ _ h => by cases h⟩
/-- one function's calls more -/
def Env.add (E : Env) (f : Nat) (h : List AV → CR) : Env :=
  { E with T := fun g xs => match Nat.beq f g with | true => h xs | false => E.T g xs }
def CRok (P : Program) (G : World → Prop) (f : Nat) (as : List AV) : CR → Prop
  | .no => True
  | .yes r => PC P G f as r
  | @CR.need C _ r => C → PC P G f as r
theorem Env.add_ok {P : Program} {E : Env} (hE : EnvOk P E) {f : Nat} {h : List AV → CR} (hc : callable P f = true) (hh : ∀ xs, CRok P E.G f xs (h xs)) : EnvOk P (E.add f h) where
  g := hE.g
  s := hE.s
  t := fun g xs => by
    show (match (match Nat.beq f g with | true => h xs | false => E.T g xs) with | .no => True | .yes r => Called P E.G g xs r | @CR.need C _ r => C → Called P E.G g xs r)
    cases hb : Nat.beq f g with
    | false => exact hE.t g xs
    | true =>
      have e := Nat.eq_of_beq_eq_true hb
      subst e
      have := hh xs
      cases hx : h xs with
      | no => trivial
      | yes r => rw [hx] at this; exact .inl ⟨hc, this⟩
      | need C r => rw [hx] at this; exact fun hC => .inl ⟨hc, this hC⟩
  h := hE.h
/-- what is answered at once -/
def XRok (P : Program) (f : Nat) (as : List AV) : CR → Prop
  | .no => True
  | .yes r => XC P f as r
  | @CR.need C _ r => C → XC P f as r
theorem Env.addX_ok {P : Program} {E : Env} (hE : EnvOk P E) {f : Nat} {h : List AV → CR} (hh : ∀ xs, XRok P f xs (h xs)) : EnvOk P (E.add f h) where
  g := hE.g
  s := hE.s
  t := fun g xs => by
    show (match (match Nat.beq f g with | true => h xs | false => E.T g xs) with | .no => True | .yes r => Called P E.G g xs r | @CR.need C _ r => C → Called P E.G g xs r)
    cases hb : Nat.beq f g with
    | false => exact hE.t g xs
    | true =>
      have e := Nat.eq_of_beq_eq_true hb
      subst e
      have := hh xs
      cases hx : h xs with
      | no => trivial
      | yes r => rw [hx] at this; exact .inr this
      | need C r => rw [hx] at this; exact fun hC => .inr (this hC)
  h := hE.h
/-- one function's calls more that turn memory -/
def Env.addH (E : Env) (f : Nat) (h : List AV → St → Res) : Env :=
  { E with hf := fun g => match Nat.beq f g with | true => true | false => E.hf g, H := fun g xs m => match Nat.beq f g with | true => h xs m | false => E.H g xs m }
def HRok (P : Program) (G : World → Prop) (f : Nat) (as : List AV) (m : St) : Res → Prop
  | .fail => True
  | .ok v m' => HC P G f as m v m'
  | @Res.need C _ v m' => C → HC P G f as m v m'
theorem Env.addH_ok {P : Program} {E : Env} (hE : EnvOk P E) {f : Nat} {h : List AV → St → Res} (hc : callable P f = true) (hh : ∀ xs m, HRok P E.G f xs m (h xs m)) : EnvOk P (E.addH f h) where
  g := hE.g
  s := hE.s
  t := hE.t
  h := fun g xs m hg => by
    show (match (match Nat.beq f g with | true => h xs m | false => E.H g xs m) with | .fail => True | .ok v m' => callable P g = true ∧ HC P E.G g xs m v m' | @Res.need C _ v m' => C → callable P g = true ∧ HC P E.G g xs m v m')
    have hg : (match Nat.beq f g with | true => true | false => E.hf g) = true := hg
    cases hb : Nat.beq f g with
    | false => rw [hb] at hg; exact hE.h g xs m hg
    | true =>
      have e := Nat.eq_of_beq_eq_true hb
      subst e
      have := hh xs m
      cases hx : h xs m with
      | fail => trivial
      | ok v m' => rw [hx] at this; exact ⟨hc, this⟩
      | need C v m' => rw [hx] at this; exact fun hC => ⟨hc, this hC⟩

theorem pc_fin {P : Program} {E : Env} (hE : EnvOk P E) (hm : P.follows .mixedOrders = true) {f : FuncId} {fn : Func} (hf : P.funcs[f]? = some fn) {args : List AV} {r : AV} (h : fnVC P E fn args (fun v => Fini v r)) : PC P E.G f args r := pc_of hE hm hf (fun _ h => h.eq) h

/-! ### Contracts of a library function, told as the shelf tells them -/
theorem pc_pure {P : Program} {G : World → Prop} {f : FuncId} {args : List AV} {r : AV} {cargs : List Value} {cv : Value}
    (ha : ∀ X vs, RepL X true args vs → vs = cargs) (hr : ∀ X, Rep X true r cv)
    (h : ∀ w, G w → Calls P f cargs.toArray w fun e w' => e = .returned cv ∧ RowKit.Below w.heap.size w w') : PC P G f args r := by
  intro w L vs hg hargs
  rw [ha _ _ hargs]
  refine (h w hg).mono ?_
  rintro e w' ⟨rfl, hb⟩
  exact ⟨cv, L, rfl, hr _, hb, fun _ _ => rfl⟩
theorem pc_same {P : Program} {G : World → Prop} {f : FuncId} {args : List AV} {r : AV} {cargs : List Value} {cv : Value}
    (ha : ∀ X vs, RepL X true args vs → vs = cargs) (hr : ∀ X, Rep X true r cv)
    (h : ∀ w, G w → Calls P f cargs.toArray w fun e w' => e = .returned cv ∧ w' = w) : PC P G f args r :=
  pc_pure ha hr fun w hg => (h w hg).mono fun e w' ⟨h1, h2⟩ => ⟨h1, h2 ▸ ⟨rfl, rfl, rfl, Nat.le_refl _, fun _ _ => rfl⟩⟩
end Go.Ab
