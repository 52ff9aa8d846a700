/- WordsCase: great letters in names and keys say what small ones say: the same tokens, at the same places. For any text, any letters outside of quotes turned into great ones. -/
import Derived.Test.YtejepcnoflahkaaDoorWFrame
import Derived.Test.YtejepcnoflahkaaDoorWCm
section
namespace Go.Proofs.YtejepcnoflahkaaDoor
open Go Go.Ab Go.ChangeShapes Go.WideShapes Go.ChangeAt Go.RowKit
set_option linter.unusedVariables false
set_option maxRecDepth 100000
section
variable {H : Type} {enc : TypeId × Value → H}
def tysL : List TypeId := [22, 4]
theorem tysL_ok : plainTys Tryd.prog tysL = true := by kernel_rfl
theorem list_of {α β : Type} {Q : α → Prop} {f : β → AV} {g : α → AV} : ∀ es : List β, (∀ y ∈ es, ∃ a, Q a ∧ f y = g a) → ∃ l : List α, l.length = es.length ∧ (∀ a ∈ l, Q a) ∧ es.map f = l.map g
  | [], _ => ⟨[], rfl, fun _ h => (List.not_mem_nil h).elim, rfl⟩
  | y :: es, h => by
    obtain ⟨a, h1, h2⟩ := h y (by simp)
    obtain ⟨l, h3, h4, h5⟩ := list_of es fun z hz => h z (by simp [hz])
    exact ⟨a :: l, by simp [h3], fun x hx => by
      rcases List.mem_cons.1 hx with rfl | hx
      · exact h1
      · exact h4 x hx, by simp [h2, h5]⟩
theorem arg_slice {α : Type} {Q : α → Prop} {g : α → AV} {W : World} {base : Nat} {t e : TypeId} (hu : Tryd.prog.underlying t = some (.slice e)) (ht : t ∈ tysL)
    (he : ∀ (n : Nat) (cs : List Value) (x : DataW H × List MemPlace), DataW.trod enc Tryd.prog W 0 (fun _ => true) true n e cs = some x → ∃ a, Q a ∧ avD x.1 = g a)
    {v : Value} {d : DataW H} {ps : List MemPlace} (hval : Value.okWide Tryd.prog W .any base t v) (h : DataW.Trod enc Tryd.prog W 0 (fun _ => true) true t v d ps) :
    ∃ l : List α, l.length ≤ 9223372036854775807 ∧ (∀ a ∈ l, Q a) ∧ ∀ f : Nat → AV, (∀ i (hi : i < l.length), g l[i] = f i) → Rep (Cx.bare W fun _ => none) true (.sl .no l.length f) v := by
  have hr := rep_of_arg tysL_ok ht hval h
  obtain ⟨fuel, hf⟩ := h
  rcases DataW.trod_slice hu hf with ⟨_, e2⟩ | ⟨a, len, cap, elems, rest, n', _, _, e2, hb, hl, hm, hlen, hel, _, _⟩
  · injection e2 with e2 _; subst e2
    exact ⟨[], by show 0 ≤ _; omega, fun _ h => (List.not_mem_nil h).elim, fun f _ => rep_slice (fun i hi => absurd hi (Nat.not_lt_zero _)) hr⟩
  · injection e2 with e2 _; subst e2
    obtain ⟨l, h1, h2, h3⟩ := list_of (Q := Q) (f := fun y : DataW H × List MemPlace => avD y.1) (g := g) elems fun y hy => by
      obtain ⟨i, hi, e⟩ := List.getElem_of_mem hy
      have h4 := hel i (by omega)
      rw [List.getElem?_eq_getElem hi, e, Option.bind_eq_some_iff] at h4
      obtain ⟨cs', _, h5⟩ := h4
      exact he _ _ _ h5
    have hmx : maxLen = 9223372036854775807 := rfl
    refine ⟨l, by omega, h2, fun f hfi => ?_⟩
    have hr' : Rep (Cx.bare W fun _ => none) true (.sl .no (elems.map (·.1)).length (atF (avDL (elems.map (·.1))))) v := hr
    rw [List.length_map, ← h1] at hr'
    refine rep_slice (fun i hi => ?_) hr'
    rw [← hfi i hi, avDL_map, List.map_map]
    show (elems.map fun y => avD y.1).getD i .any = _
    rw [h3, List.getD_eq_getElem?_getD, List.getElem?_map, List.getElem?_eq_getElem hi]
    rfl
theorem arg_bools {W : World} {base : Nat} {v : Value} {d : DataW H} {ps : List MemPlace} (hval : Value.okWide Tryd.prog W .any base 22 v) (h : DataW.Trod enc Tryd.prog W 0 (fun _ => true) true 22 v d ps) :
    ∃ l : List Bool, l.length ≤ 9223372036854775807 ∧ Rep (Cx.bare W fun _ => none) true (.sl .no l.length (fun i => .bool (l.getD i false))) v := by
  obtain ⟨l, h1, h2, h3⟩ := arg_slice (α := Bool) (Q := fun _ => True) (g := fun b => .bool b) Tryd.underlying22 (by decide) (fun n cs x h => by
    obtain ⟨b, e0, e1⟩ := DataW.trod_bool Tryd.underlying4 h
    exact ⟨b, trivial, by rw [e1]; rfl⟩) hval h
  exact ⟨l, h1, h3 _ fun i hi => by simp [List.getD_eq_getElem?_getD, hi]⟩
end
end Go.Proofs.YtejepcnoflahkaaDoor
end

section
namespace Go.Proofs.YtejepcnoflahkaaDoor.lawCase
open Go Go.Ab Go.ChangeShapes Go.WideShapes Go.ChangeAt Go.RowKit
set_option linter.unusedVariables false
set_option maxRecDepth 100000

theorem contract {H : Type} (enc : TypeId × Value → H) (W : World) (base : Nat) (args : Array Value) (ds gs : List (DataW H)) (before : List MemPlace)
    (hval : ∀ (j : Nat) t v, Tryd.f3.params[j]? = some t → args[j]? = some v → Value.okWide Tryd.prog W .any base t v)
    (hW : DataW.Whole enc Tryd.prog Tryd.f3.params.toList Rows.wordsCaseSpec.vars false W args.toList ds gs before) (hL : laidMetH Tryd.prog laidAll W) (hs : W.ShapedOpen Tryd.prog) :
    Calls Tryd.prog 3 args W fun e W' => ∃ v, e = .returned v ∧ Rows.wordsCaseSpec.post enc Tryd.prog Tryd.f3 false true false false W args v W' := by
  have hW' := hW
  obtain ⟨p, q, hA, hV, rfl, hfz, hnd⟩ := hW
  rw [Tryd.params3] at hA hval
  obtain ⟨v0, vs0, d0, ds0, p0, q0, hargs, rfl, rfl, h0, r0⟩ := trodAll_cons hA
  obtain ⟨v1, vs1, d1, ds1, p1, q1, rfl, rfl, rfl, h1, r1⟩ := trodAll_cons r0
  obtain ⟨rfl, rfl, rfl⟩ := trodAll_nil r1
  obtain rfl : args = #[v0, v1] := by cases args; simp_all
  obtain ⟨x0, b0, e0⟩ := arg_str (hval 0 _ v0 rfl rfl) h0
  obtain ⟨x1, b1, e1⟩ := arg_bools (hval 1 _ v1 rfl rfl) h1
  refine (pc_WordsCase x0 x1 b0 b1 W (fun _ => none) [v0, v1] (gw_of hL hs) (.cons e0 (.cons e1 .nil))).mono ?_
  rintro e W' ⟨cv, L', rfl, hr, hbl, _⟩
  cases hr
  exact ⟨_, rfl, post_of_below (tb := 4) (by kernel_rfl) (by kernel_rfl) rfl Tryd.underlying4 rfl hW' (fun l hl => by
    match l, hl with
    | [y0, y1], _ => exact ⟨rfl, rfl, rfl⟩) hbl⟩

theorem reads (os : Os) {H : Type} (enc : TypeId × Value → H) : ∃ places, DataW.whole enc Tryd.prog ((laidWorld os).forCall (fun _ _ => 0) ⟨#[], #[.string ⟨#[]⟩, .slice none 0 0], []⟩).memory Tryd.f3.params.toList Rows.wordsCaseSpec.vars false (#[Value.string ⟨#[]⟩, .slice none 0 0] : Array Value).toList 8 = some ([.lit (.string []), .nil], [], places) :=
  ⟨[], by kernel_rfl⟩
theorem lifted (os : Os) (started : os.Started) (H : Type) (enc : TypeId × Value → H) (F : Stop.Interp) :
    ReturnsInHanded {} Tryd.checked os 3 .any ((OpenSpec.ofChange Rows.wordsCaseSpec).preRow enc Tryd.prog Tryd.f3 Rows.wordsCaseRow.domain false Rows.wordsCaseRow.laid) (((OpenSpec.ofChange Rows.wordsCaseSpec).at F).post enc Tryd.prog Tryd.f3 false true false false) := by
  obtain ⟨places, hx⟩ := reads os enc
  refine returnsInHanded_of_row (C := Tryd.checked) (s := OpenSpec.ofChange Rows.wordsCaseSpec) own started (by kernel_rfl) Tryd.func3
    (witness_row_zip (enc := enc) (C := Tryd.checked) false (laidWorld os) #[.string ⟨#[]⟩, .slice none 0 0] (World.laidAll_os _ _ _) (by kernel_rfl) (by kernel_rfl) (by kernel_rfl)
      (OpenSpec.preRow_of_cond 8 hx (by kernel_rfl) (fun k hk => by cases hk) (by kernel_rfl) (laid_met os _))) ?_
  intro W base args ds gs before hval hW _ _ _ hL hs _
  exact contract enc W base args ds gs before hval hW hL hs

theorem jIn : (Rows.wordsCaseRow.inPlace == Tryd.pinned.checked.prog.inPlace 3) = true := by kernel_rfl
theorem jUn : (Rows.wordsCaseRow.unfollowed == Tryd.pinned.checked.prog.unfollowed 3) = true := by kernel_rfl
theorem jRec : (Rows.wordsCaseRow.recurses == Tryd.pinned.checked.prog.recurses 3) = true := by kernel_rfl
theorem jNam : (Rows.wordsCaseRow.named == Tryd.pinned.checked.prog.varsNamed 3) = true := by kernel_rfl
theorem closed : joinedFacts Tryd.pinned.checked.prog 3 Tryd.f3 (OpenSpec.ofChange Rows.wordsCaseSpec).bare Rows.wordsCaseRow = true := by
  unfold joinedFacts
  rw [jIn, jUn, jRec, jNam]
  kernel_rfl
theorem said : Rows.WordsCaseSaid :=
  OpenClaim.holds_of_cond 3 Tryd.f3 rfl rfl rfl rfl rfl rfl rfl ⟨rfl, rfl, rfl, rfl, rfl⟩ rfl rfl rfl rfl rfl (by kernel_rfl) Tryd.func3 closed
    (of_decide_eq_true (by kernel_rfl)) (by unfold Func.isWrapper; first | (rw [if_pos (by decide +kernel)]; kernel_rfl) | (rw [if_neg (by decide +kernel)]; exact ⟨rfl, rfl⟩))
    (fun os started H enc _ F => by rw [OpenClaim.pre_eq_preRow]; exact lifted os started H enc F)
theorem plain (f : FuncId) (fn : Func) (hf : Tryd.pinned.checked.prog.funcNamed "cardindex/cardindexlaw09.WordsCase" = some f) (hfn : Tryd.pinned.checked.prog.funcs[f]? = some fn) :
    true = Tryd.pinned.checked.prog.looks [] ∧ ∀ (j : Nat) t, fn.params[j]? = some t → Tryd.pinned.checked.prog.wantsStandIn t = false := by
  obtain rfl : f = 3 := Option.some.inj ((show Tryd.prog.funcNamed "cardindex/cardindexlaw09.WordsCase" = some 3 by kernel_rfl).symm.trans hf) |>.symm
  obtain rfl : fn = Tryd.f3 := (Option.some.inj (Tryd.func3.symm.trans hfn)).symm
  refine ⟨by kernel_rfl, fun j t ht => ?_⟩
  have hall : (Tryd.f3.params.toList.all fun t => !Tryd.prog.wantsStandIn t) = true := by kernel_rfl
  have h := List.all_eq_true.1 hall t (Array.mem_toList_iff.2 (Array.mem_of_getElem? ht))
  revert h
  show ((!Tryd.prog.wantsStandIn t) = true) → Tryd.prog.wantsStandIn t = false
  cases Tryd.prog.wantsStandIn t <;> simp
theorem card : Rows.WordsCaseCardSaid :=
  Claim7.holds_tied_plain_at .later [] _ _ _ _ said (fun _ h => by cases h) (by kernel_rfl) (fun _ h => by cases h) wordsCase_row_tie rfl ⟨rfl, rfl⟩ (by kernel_rfl) rfl plain (by kernel_rfl)
end Go.Proofs.YtejepcnoflahkaaDoor.lawCase
end
