/- Slices as arguments of the rows of this seat. -/
import Derived.Test.YtejepcnoflahkaaGreatDoorAFrame
namespace Go.Proofs.YtejepcnoflahkaaGreatDoor
open Go Go.Ab Go.ChangeShapes Go.WideShapes Go.ChangeAt Go.RowKit
set_option linter.unusedVariables false
set_option maxRecDepth 100000
section
variable {H : Type} {enc : TypeId × Value → H}
def tysL : List TypeId := [22, 94, 130, 34, 32, 2, 9, 5, 4]
theorem tysL_ok : plainTys Tryz.prog tysL = true := by kernel_rfl
theorem list_of {α β : Type} {Q : α → Prop} {f : β → AV} {g : α → AV} : ∀ es : List β, (∀ y ∈ es, ∃ a, Q a ∧ f y = g a) → ∃ l : List α, l.length = es.length ∧ (∀ a ∈ l, Q a) ∧ es.map f = l.map g
  | [], _ => ⟨[], rfl, fun _ h => (List.not_mem_nil h).elim, rfl⟩
  | y :: es, h => by
    obtain ⟨a, h1, h2⟩ := h y (by simp)
    obtain ⟨l, h3, h4, h5⟩ := list_of es fun z hz => h z (by simp [hz])
    exact ⟨a :: l, by simp [h3], fun x hx => by
      rcases List.mem_cons.1 hx with rfl | hx
      · exact h1
      · exact h4 x hx, by simp [h2, h5]⟩
theorem arg_slice {α : Type} {Q : α → Prop} {g : α → AV} {W : World} {base : Nat} {t e : TypeId} (hu : Tryz.prog.underlying t = some (.slice e)) (ht : t ∈ tysL)
    (he : ∀ (n : Nat) (cs : List Value) (x : DataW H × List MemPlace), DataW.trod enc Tryz.prog W 0 (fun _ => true) true n e cs = some x → ∃ a, Q a ∧ avD x.1 = g a)
    {v : Value} {d : DataW H} {ps : List MemPlace} (hval : Value.okWide Tryz.prog W .any base t v) (h : DataW.Trod enc Tryz.prog W 0 (fun _ => true) true t v d ps) :
    ∃ l : List α, l.length ≤ 9223372036854775807 ∧ (∀ a ∈ l, Q a) ∧ ∀ f : Nat → AV, (∀ i (hi : i < l.length), g l[i] = f i) → Rep (Cx.bare W fun _ => none) true (.sl .no l.length f) v := by
  have hr := rep_of_arg tysL_ok ht hval h
  obtain ⟨fuel, hf⟩ := h
  rcases DataW.trod_slice hu hf with ⟨_, e2⟩ | ⟨a, len, cap, elems, rest, n', _, _, e2, hb, hl, hm, hlen, hel, _, _⟩
  · injection e2 with e2 _; subst e2
    exact ⟨[], by show 0 ≤ _; omega, fun _ h => (List.not_mem_nil h).elim, fun f _ => rep_slice (fun i hi => absurd hi (Nat.not_lt_zero _)) hr⟩
  · injection e2 with e2 _; subst e2
    obtain ⟨l, h1, h2, h3⟩ := list_of (Q := Q) (f := fun y : DataW H × List MemPlace => avD y.1) (g := g) elems fun y hy => by
      obtain ⟨i, hi, e⟩ := List.getElem_of_mem hy
      have h4 := hel i (by omega)
      rw [List.getElem?_eq_getElem hi, e, Option.bind_eq_some_iff] at h4
      obtain ⟨cs', _, h5⟩ := h4
      exact he _ _ _ h5
    have hmx : maxLen = 9223372036854775807 := rfl
    refine ⟨l, by omega, h2, fun f hfi => ?_⟩
    have hr' : Rep (Cx.bare W fun _ => none) true (.sl .no (elems.map (·.1)).length (atF (avDL (elems.map (·.1))))) v := hr
    rw [List.length_map, ← h1] at hr'
    refine rep_slice (fun i hi => ?_) hr'
    rw [← hfi i hi, avDL_map, List.map_map]
    show (elems.map fun y => avD y.1).getD i .any = _
    rw [h3, List.getD_eq_getElem?_getD, List.getElem?_map, List.getElem?_eq_getElem hi]
    rfl
theorem elem_V {W : World} (n : Nat) (cs : List Value) (x : DataW H × List MemPlace) (h : DataW.trod enc Tryz.prog W 0 (fun _ => true) true n 34 cs = some x) : ∃ a : V, okV a ∧ avD x.1 = encV a := by
  obtain ⟨y0, y1, y2, n, hx, _, h0, h1, h2⟩ := Deep.trod_struct3 Tryz.underlying34 h
  subst hx
  obtain ⟨k, _, e0, w0⟩ := DataW.trod_int Tryz.underlying32 h0
  obtain ⟨m, _, e1, w1⟩ := DataW.trod_int Tryz.underlying2 h1
  obtain ⟨s, _, e2, w2⟩ := DataW.trod_string Tryz.underlying9 h2
  refine ⟨⟨k, m, s.data.toList⟩, ⟨?_, wf_i64 w1, ?_⟩, ?_⟩
  · simp [Lit.wf, IntKind.min, IntKind.max, IntKind.signed, IntKind.bits] at w0
    exact w0
  · have h2 : s.data.size ≤ maxLen := w2
    have h3 : s.data.toList.length = s.data.size := Array.length_toList
    have h4 : maxLen = 9223372036854775807 := rfl
    show s.data.toList.length ≤ _
    omega
  · rw [e0, e1, e2]; rfl
theorem arg_Vs {W : World} {base : Nat} {v : Value} {d : DataW H} {ps : List MemPlace} (hval : Value.okWide Tryz.prog W .any base 22 v) (h : DataW.Trod enc Tryz.prog W 0 (fun _ => true) true 22 v d ps) :
    ∃ l : List V, (l.length ≤ 9223372036854775807 ∧ ∀ x ∈ l, okV x) ∧ Rep (Cx.bare W fun _ => none) true (.sl .no l.length (fun i => encV (l.getD i null))) v := by
  obtain ⟨l, h1, h2, h3⟩ := arg_slice (Q := okV) (g := encV) Tryz.underlying22 (by decide) (fun n cs x h => elem_V n cs x h) hval h
  exact ⟨l, ⟨h1, h2⟩, h3 _ fun i hi => by simp [List.getD_eq_getElem?_getD, hi]⟩
theorem arg_bytes {W : World} {base : Nat} {v : Value} {d : DataW H} {ps : List MemPlace} (hval : Value.okWide Tryz.prog W .any base 94 v) (h : DataW.Trod enc Tryz.prog W 0 (fun _ => true) true 94 v d ps) :
    ∃ l : List UInt8, l.length ≤ 9223372036854775807 ∧ Rep (Cx.bare W fun _ => none) true (.sl .no l.length (strF l)) v := by
  obtain ⟨l, h1, h2, h3⟩ := arg_slice (α := UInt8) (Q := fun _ => True) (g := fun b => .int .u8 (b.toNat : Int)) Tryz.underlying94 (by decide) (fun n cs x h => by
    obtain ⟨k, e0, e1, w0⟩ := DataW.trod_int Tryz.underlying5 h
    simp [Lit.wf, IntKind.min, IntKind.max, IntKind.signed, IntKind.bits] at w0
    refine ⟨UInt8.ofNat k.toNat, trivial, ?_⟩
    rw [e1]
    show AV.int .u8 k = AV.int .u8 _
    rw [show (((UInt8.ofNat k.toNat).toNat : Nat) : Int) = k from by rw [UInt8.toNat_ofNat']; omega]) hval h
  exact ⟨l, h1, h3 _ fun i hi => by simp [strF, List.getD_eq_getElem?_getD, hi]⟩
theorem arg_bools {W : World} {base : Nat} {v : Value} {d : DataW H} {ps : List MemPlace} (hval : Value.okWide Tryz.prog W .any base 130 v) (h : DataW.Trod enc Tryz.prog W 0 (fun _ => true) true 130 v d ps) :
    ∃ l : List Bool, l.length ≤ 9223372036854775807 ∧ Rep (Cx.bare W fun _ => none) true (.sl .no l.length (fun i => .bool (l.getD i false))) v := by
  obtain ⟨l, h1, h2, h3⟩ := arg_slice (α := Bool) (Q := fun _ => True) (g := fun b => .bool b) Tryz.underlying130 (by decide) (fun n cs x h => by
    obtain ⟨b, e0, e1⟩ := DataW.trod_bool Tryz.underlying4 h
    exact ⟨b, trivial, by rw [e1]; rfl⟩) hval h
  exact ⟨l, h1, h3 _ fun i hi => by simp [List.getD_eq_getElem?_getD, hi]⟩
end
end Go.Proofs.YtejepcnoflahkaaGreatDoor
