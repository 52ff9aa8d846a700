/- AggTells: of any values, right or not, each total, distinct or not, is as the document defines it; so is what it comes to behind each of them. For any name, any values. -/
import Derived.Test.YtejepcnoflahkaaGreatDoorAFrame2
import Derived.Test.YtejepcnoflahkaaGreatDoorATm2
namespace Go.Proofs.YtejepcnoflahkaaGreatDoor.lawTells
open Go Go.Ab Go.ChangeShapes Go.WideShapes Go.ChangeAt Go.RowKit
set_option linter.unusedVariables false
set_option maxRecDepth 100000

theorem contract {H : Type} (enc : TypeId × Value → H) (W : World) (base : Nat) (args : Array Value) (ds gs : List (DataW H)) (before : List MemPlace)
    (hval : ∀ (j : Nat) t v, Tryz.f3.params[j]? = some t → args[j]? = some v → Value.okWide Tryz.prog W .any base t v)
    (hW : DataW.Whole enc Tryz.prog Tryz.f3.params.toList Rows.aggTellsSpec.vars false W args.toList ds gs before) (hL : laidMetH Tryz.prog laidAll W) (hs : W.ShapedOpen Tryz.prog) :
    Calls Tryz.prog 3 args W fun e W' => ∃ v, e = .returned v ∧ Rows.aggTellsSpec.post enc Tryz.prog Tryz.f3 false true false false W args v W' := by
  have hW' := hW
  obtain ⟨p, q, hA, hV, rfl, hfz, hnd⟩ := hW
  rw [Tryz.params3] at hA hval
  obtain ⟨v0, vs0, d0, ds0, p0, q0, hargs, rfl, rfl, h0, r0⟩ := trodAll_cons hA
  obtain ⟨v1, vs1, d1, ds1, p1, q1, rfl, rfl, rfl, h1, r1⟩ := trodAll_cons r0
  obtain ⟨v2, vs2, d2, ds2, p2, q2, rfl, rfl, rfl, h2, r2⟩ := trodAll_cons r1
  obtain ⟨rfl, rfl, rfl⟩ := trodAll_nil r2
  obtain rfl : args = #[v0, v1, v2] := by cases args; simp_all
  obtain ⟨x0, b0, e0⟩ := arg_str (hval 0 _ v0 rfl rfl) h0
  obtain ⟨x1, b1, e1⟩ := arg_bool (hval 1 _ v1 rfl rfl) h1
  obtain ⟨x2, b2, e2⟩ := arg_Vs (hval 2 _ v2 rfl rfl) h2
  refine ((fun (s : List UInt8) (d : Bool) (l : List V) (_ : s.length ≤ 9223372036854775807) (_ : True) (hl : l.length ≤ 9223372036854775807 ∧ ∀ x ∈ l, okV x) => pc_AggTells s d l hl.1 (fun x h => (hl.2 x h).2.1)) x0 x1 x2 b0 b1 b2 W (fun _ => none) [v0, v1, v2] (gw_of hL hs) (.cons e0 (.cons e1 (.cons e2 .nil)))).mono ?_
  rintro e W' ⟨cv, L', rfl, hr, hbl, _⟩
  cases hr
  exact ⟨_, rfl, post_of_below (tb := 4) (by kernel_rfl) (by kernel_rfl) rfl Tryz.underlying4 rfl hW' (fun l hl => by
    match l, hl with
    | [y0, y1, y2], _ => exact ⟨rfl, rfl, rfl⟩) hbl⟩

theorem reads (os : Os) {H : Type} (enc : TypeId × Value → H) : ∃ places, DataW.whole enc Tryz.prog ((laidWorld os).forCall (fun _ _ => 0) ⟨#[], #[.string ⟨#[]⟩, .bool false, .slice none 0 0], []⟩).memory Tryz.f3.params.toList Rows.aggTellsSpec.vars false (#[Value.string ⟨#[]⟩, .bool false, .slice none 0 0] : Array Value).toList 8 = some ([.lit (.string []), .lit (.bool false), .nil], [], places) :=
  ⟨[], by kernel_rfl⟩
theorem lifted (os : Os) (started : os.Started) (H : Type) (enc : TypeId × Value → H) (F : Stop.Interp) :
    ReturnsInHanded {} Tryz.checked os 3 .any ((OpenSpec.ofChange Rows.aggTellsSpec).preRow enc Tryz.prog Tryz.f3 Rows.aggTellsRow.domain false Rows.aggTellsRow.laid) (((OpenSpec.ofChange Rows.aggTellsSpec).at F).post enc Tryz.prog Tryz.f3 false true false false) := by
  obtain ⟨places, hx⟩ := reads os enc
  refine returnsInHanded_of_row (C := Tryz.checked) (s := OpenSpec.ofChange Rows.aggTellsSpec) own started (by kernel_rfl) Tryz.func3
    (witness_row_zip (enc := enc) (C := Tryz.checked) false (laidWorld os) #[.string ⟨#[]⟩, .bool false, .slice none 0 0] (World.laidAll_os _ _ _) (by kernel_rfl) (by kernel_rfl) (by kernel_rfl)
      (OpenSpec.preRow_of_cond 8 hx (by kernel_rfl) (fun k hk => by cases hk) (by kernel_rfl) (laid_met os _))) ?_
  intro W base args ds gs before hval hW _ _ _ hL hs _
  exact contract enc W base args ds gs before hval hW hL hs

theorem jIn : (Rows.aggTellsRow.inPlace == Tryz.pinned.checked.prog.inPlace 3) = true := by kernel_rfl
theorem jUn : (Rows.aggTellsRow.unfollowed == Tryz.pinned.checked.prog.unfollowed 3) = true := by kernel_rfl
theorem jRec : (Rows.aggTellsRow.recurses == Tryz.pinned.checked.prog.recurses 3) = true := by kernel_rfl
theorem jNam : (Rows.aggTellsRow.named == Tryz.pinned.checked.prog.varsNamed 3) = true := by kernel_rfl
theorem closed : joinedFacts Tryz.pinned.checked.prog 3 Tryz.f3 (OpenSpec.ofChange Rows.aggTellsSpec).bare Rows.aggTellsRow = true := by
  unfold joinedFacts
  rw [jIn, jUn, jRec, jNam]
  kernel_rfl
theorem said : Rows.AggTellsSaid :=
  OpenClaim.holds_of_cond 3 Tryz.f3 rfl rfl rfl rfl rfl rfl rfl ⟨rfl, rfl, rfl, rfl, rfl⟩ rfl rfl rfl rfl rfl (by kernel_rfl) Tryz.func3 closed
    (of_decide_eq_true (by kernel_rfl)) (by unfold Func.isWrapper; first | (rw [if_pos (by decide +kernel)]; kernel_rfl) | (rw [if_neg (by decide +kernel)]; exact ⟨rfl, rfl⟩))
    (fun os started H enc _ F => by rw [OpenClaim.pre_eq_preRow]; exact lifted os started H enc F)
theorem plain (f : FuncId) (fn : Func) (hf : Tryz.pinned.checked.prog.funcNamed "cardindex/cardindexlaw08.AggTells" = some f) (hfn : Tryz.pinned.checked.prog.funcs[f]? = some fn) :
    true = Tryz.pinned.checked.prog.looks [] ∧ ∀ (j : Nat) t, fn.params[j]? = some t → Tryz.pinned.checked.prog.wantsStandIn t = false := by
  obtain rfl : f = 3 := Option.some.inj ((show Tryz.prog.funcNamed "cardindex/cardindexlaw08.AggTells" = some 3 by kernel_rfl).symm.trans hf) |>.symm
  obtain rfl : fn = Tryz.f3 := (Option.some.inj (Tryz.func3.symm.trans hfn)).symm
  refine ⟨by kernel_rfl, fun j t ht => ?_⟩
  have hall : (Tryz.f3.params.toList.all fun t => !Tryz.prog.wantsStandIn t) = true := by kernel_rfl
  have h := List.all_eq_true.1 hall t (Array.mem_toList_iff.2 (Array.mem_of_getElem? ht))
  revert h
  show ((!Tryz.prog.wantsStandIn t) = true) → Tryz.prog.wantsStandIn t = false
  cases Tryz.prog.wantsStandIn t <;> simp
theorem card : Rows.AggTellsCardSaid :=
  Claim7.holds_tied_plain_at .later [] _ _ _ _ said (fun _ h => by cases h) (by kernel_rfl) (fun _ h => by cases h) aggTells_row_tie rfl ⟨rfl, rfl⟩ (by kernel_rfl) rfl plain (by kernel_rfl)
end Go.Proofs.YtejepcnoflahkaaGreatDoor.lawTells
