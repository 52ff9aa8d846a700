/- Reset of a total that has values: the walk. -/
import Derived.Test.YtbpnnilocbgdbaaDoorAOrder
namespace Go.Proofs.YtbpnnilocbgdbaaDoor
open Go Go.Ab
set_option linter.unusedVariables false
set_option linter.unusedSimpArgs false
set_option maxRecDepth 100000
set_option maxHeartbeats 8000000

/-- behind Reset: the total has a new map, and no list -/
def resSt (name : List UInt8) (d : Bool) (ln : Nat) (sn : List (List UInt8 × Int)) : St := St.mk' 0 3 2 [] [(0, .cells (accJ name d acc0 1 2)), (1, .map (encM sn)), (2, .map [])] [(0, ln, 24), (1, 0, 24)]
theorem hc_reset_used (name : List UInt8) (hn : name ≠ []) (d : Bool) (n hi lo : Int) (b : V) (ln : Nat) (f : Nat → AV) (sn : List (List UInt8 × Int)) :
    HC Tryd.prog GV 11 [.ptr 0 0] (St.small (accP name d n hi lo b ln f sn) [(ln, 24)]) (.tup []) (resSt name d ln sn) := by
  have k0 : (name == []) = false := by simpa using hn
  refine hc_of EB12_0_ok mixed (show Tryd.prog.funcs[11]? = some Tryd.f11 from rfl) (Nat.le_of_ble_eq_true rfl) (Nat.le_of_ble_eq_true rfl) ?_
  repeat' (refine BR.mk (fun h => ?_) (fun h => ?_) <;> first | with_reducible exact Bool.noConfusion h | with_reducible exact Bool.noConfusion (k0.symm.trans h) | skip)
  · exact (show commutes _ _ = true by kernel_rfl)
  · refine Go.Ab.Left.mk (Nat.le_of_ble_eq_true rfl) ⟨[], fun _ _ => rfl, Wv.same rfl, Wk.mk' rfl rfl ⟨fun _ => rfl, fun _ => trivial⟩ trivial ?_⟩
    refine BR.mk (fun _ => ?_) fun _ => BR.mk (fun _ => ?_) fun _ => BR.mk (fun _ => ?_) fun _ => trivial
    · refine ⟨Nat.le_of_ble_eq_true rfl, .inl ⟨rfl, _, rfl, ?_⟩⟩
      refine WvL.cons (Wv.same rfl) (WvL.cons (Wv.same rfl) (WvL.cons (Wv.same rfl) (WvL.cons (Wv.same rfl) (WvL.cons (Wv.same rfl) (WvL.cons (Wv.same rfl) (WvL.cons (Wv.same rfl) (WvL.cons (Wv.same rfl) (WvL.cons ?_ (WvL.same rfl)))))))))
      exact Wv.sl rfl (fun i hi => absurd hi (Nat.not_lt_zero _)) ⟨Nat.le_of_ble_eq_true rfl, _, rfl⟩
    · exact ⟨Nat.le_of_ble_eq_true rfl, .inl ⟨rfl, _, rfl, ⟨rfl, keep_enc1 _ _ _ _, keep_enc2 _ _ _ _⟩⟩⟩
    · exact ⟨Nat.le_of_ble_eq_true rfl, .inl ⟨rfl, _, rfl, rfl, rfl, rfl⟩⟩
noncomputable def h_resetU : List AV → St → Res
  | [.ptr i 0], m => match m.h i with
    | some (.cells [.str name, .bool d, .int .i64 n, .int .u64 hi, .int .u64 lo, .int .u8 bk, .int .i64 bn, .str bs, .sl (.tok t) ln f, .map j]) => match m.h j with
      | some (.map es) => @Res.need ([i, j].Nodup ∧ m.k t = some (ln, 24) ∧ es = encM (sO es) ∧ name ≠ []) (Classical.propDecidable _) (.tup []) (m.within (St.small (accP name d n hi lo ⟨bk, bn, bs⟩ ln f (sO es)) [(ln, 24)]) (resSt name d ln (sO es)) [i, j] [t])
      | _ => .fail
    | _ => .fail
  | _, _ => .fail
theorem h_resetU_ok (xs : List AV) (m : St) : HRok Tryd.prog GV 11 xs m (h_resetU xs m) := by
  unfold h_resetU
  split
  · rename_i i
    split
    · rename_i name d n hi lo bk bn bs t ln f j h0
      split
      · rename_i es h1
        rintro ⟨hnd, hk, hes, hne⟩
        exact hc_small (hc_reset_used name hne d n hi lo ⟨bk, bn, bs⟩ ln f (sO es)) [i, j] [t] (Nat.le_of_ble_eq_true rfl) (Nat.le_of_ble_eq_true rfl) rfl hnd (by simp) ⟨⟨rfl, _, h0, leB.refl _⟩, ⟨⟨under_enc1 _ _ _, under_enc2 _ _ _⟩, _, h1, fits_map hes⟩, trivial⟩ ⟨hk, trivial⟩
      · trivial
    · trivial
  · trivial
noncomputable def EF1 : Env := EE3.addH 24 h_new
theorem EF1_ok : EnvOk Tryd.prog EF1 := Env.addH_ok EE3_ok (by kernel_rfl) h_new_ok
noncomputable def EF2 : Env := EF1.addH 13 h_step
theorem EF2_ok : EnvOk Tryd.prog EF2 := Env.addH_ok EF1_ok (by kernel_rfl) h_step_ok
noncomputable def EF3 : Env := EF2.addH 11 h_resetU
theorem EF3_ok : EnvOk Tryd.prog EF3 := Env.addH_ok EF2_ok (by kernel_rfl) h_resetU_ok

end Go.Proofs.YtbpnnilocbgdbaaDoor
