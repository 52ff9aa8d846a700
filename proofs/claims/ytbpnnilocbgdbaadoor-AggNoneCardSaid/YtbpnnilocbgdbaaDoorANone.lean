/- AggNone: totals that New did not make. -/
import Derived.Test.YtbpnnilocbgdbaaDoorAM4
namespace Go.Proofs.YtbpnnilocbgdbaaDoor
open Go Go.Ab
set_option linter.unusedVariables false
set_option linter.unusedSimpArgs false
set_option maxRecDepth 100000
set_option maxHeartbeats 8000000

/-- a total that New did not make -/
def zeroC (g : Nat → AV) : List AV := newC [] false g .nilm
theorem hc_final_none : HC Tryd.prog GV 12 [.nilp] (St.small [] []) (encR ⟨null, 1⟩) (St.mk' 0 0 0 [] [] []) := by
  refine hc_of ED7_ok mixed (show Tryd.prog.funcs[12]? = some Tryd.f12 from rfl) (Nat.le_of_ble_eq_true rfl) (Nat.le_of_ble_eq_true rfl) ?_
  repeat' (refine BR.mk (fun h => ?_) (fun h => ?_) <;> try contradiction)
  all_goals exact Go.Ab.Left.mk (Nat.le_refl _) ⟨[], fun _ _ => rfl, Wv.same rfl, Wk.mk' rfl rfl trivial trivial trivial⟩
theorem hc_final_zero (g : Nat → AV) : HC Tryd.prog GV 12 [.ptr 0 0] (St.small [.cells (zeroC g)] []) (encR ⟨null, 1⟩) (St.mk' 0 1 0 [] [(0, .cells (zeroC g))] []) := by
  refine hc_of ED7_ok mixed (show Tryd.prog.funcs[12]? = some Tryd.f12 from rfl) (Nat.le_of_ble_eq_true rfl) (Nat.le_of_ble_eq_true rfl) ?_
  repeat' (refine BR.mk (fun h => ?_) (fun h => ?_) <;> try contradiction)
  all_goals try (refine Go.Ab.Left.mk (Nat.le_refl _) ⟨[], fun _ _ => rfl, Wv.same rfl, Wk.mk' rfl rfl trivial trivial ?_⟩; refine BR.mk (fun _ => ?_) fun _ => trivial; exact ⟨Nat.le_of_ble_eq_true rfl, .inl ⟨rfl, _, rfl, WvL.same rfl⟩⟩)
theorem hc_step_none (v : V) : HC Tryd.prog GV 13 [.nilp, encV v] (St.small [] []) (.int .i64 1) (St.mk' 0 0 0 [] [] []) := by
  refine hc_of ED7_ok mixed (show Tryd.prog.funcs[13]? = some Tryd.f13 from rfl) (Nat.le_of_ble_eq_true rfl) (Nat.le_of_ble_eq_true rfl) ?_
  repeat' (refine BR.mk (fun h => ?_) (fun h => ?_) <;> try contradiction)
  all_goals exact Go.Ab.Left.mk (Nat.zero_le _) ⟨[], fun _ _ => rfl, Wv.same rfl, Wk.mk' rfl rfl trivial trivial trivial⟩
theorem hc_step_zero (g : Nat → AV) (v : V) : HC Tryd.prog GV 13 [.ptr 0 0, encV v] (St.small [.cells (zeroC g)] []) (.int .i64 1) (St.mk' 0 1 0 [] [(0, .cells (zeroC g))] []) := by
  refine hc_of ED7_ok mixed (show Tryd.prog.funcs[13]? = some Tryd.f13 from rfl) (Nat.le_of_ble_eq_true rfl) (Nat.le_of_ble_eq_true rfl) ?_
  repeat' (refine BR.mk (fun h => ?_) (fun h => ?_) <;> try contradiction)
  all_goals try (refine Go.Ab.Left.mk (Nat.zero_le _) ⟨[], fun _ _ => rfl, Wv.same rfl, Wk.mk' rfl rfl trivial trivial ?_⟩; refine BR.mk (fun _ => ?_) fun _ => trivial; exact ⟨Nat.le_of_ble_eq_true rfl, .inl ⟨rfl, _, rfl, WvL.same rfl⟩⟩)
def h_finalN : List AV → St → Res
  | [.nilp], m => .ok (encR ⟨null, 1⟩) (m.within (St.small [] []) (St.mk' 0 0 0 [] [] []) [] [])
  | [.ptr i 0], m => match m.h i with
    | some (.cells [.str [], .bool false, .int .i64 0, .int .u64 0, .int .u64 0, .int .u8 0, .int .i64 0, .str [], .sl .nil n g, .nilm]) => .need (n = 0) (encR ⟨null, 1⟩) (m.within (St.small [.cells (zeroC g)] []) (St.mk' 0 1 0 [] [(0, .cells (zeroC g))] []) [i] [])
    | _ => .fail
  | _, _ => .fail
theorem h_finalN_ok (xs : List AV) (m : St) : HRok Tryd.prog GV 12 xs m (h_finalN xs m) := by
  unfold h_finalN
  split
  · exact hc_small hc_final_none [] [] (Nat.le_refl _) (Nat.le_refl _) rfl (by simp) (by simp) trivial trivial
  · rename_i i
    split
    · rename_i n g hi
      rintro rfl
      exact hc_small (hc_final_zero g) [i] [] (Nat.le_of_ble_eq_true rfl) (Nat.le_refl _) rfl (by simp) (by simp) ⟨⟨rfl, _, hi, leB.refl _⟩, trivial⟩ trivial
    · trivial
  · trivial
def h_stepN : List AV → St → Res
  | [.nilp, .agg [.int .u8 k, .int .i64 q, .str s]], m => .ok (.int .i64 1) (m.within (St.small [] []) (St.mk' 0 0 0 [] [] []) [] [])
  | [.ptr i 0, .agg [.int .u8 k, .int .i64 q, .str s]], m => match m.h i with
    | some (.cells [.str [], .bool false, .int .i64 0, .int .u64 0, .int .u64 0, .int .u8 0, .int .i64 0, .str [], .sl .nil n g, .nilm]) => .need (n = 0) (.int .i64 1) (m.within (St.small [.cells (zeroC g)] []) (St.mk' 0 1 0 [] [(0, .cells (zeroC g))] []) [i] [])
    | _ => .fail
  | _, _ => .fail
theorem h_stepN_ok (xs : List AV) (m : St) : HRok Tryd.prog GV 13 xs m (h_stepN xs m) := by
  unfold h_stepN
  split
  · rename_i k q s
    exact hc_small (hc_step_none ⟨k, q, s⟩) [] [] (Nat.le_refl _) (Nat.le_refl _) rfl (by simp) (by simp) trivial trivial
  · rename_i i k q s
    split
    · rename_i n g hi
      rintro rfl
      exact hc_small (hc_step_zero g ⟨k, q, s⟩) [i] [] (Nat.le_of_ble_eq_true rfl) (Nat.le_refl _) rfl (by simp) (by simp) ⟨⟨rfl, _, hi, leB.refl _⟩, trivial⟩ trivial
    · trivial
  · trivial
noncomputable def EN1 : Env := ED7.addH 12 h_finalN
theorem EN1_ok : EnvOk Tryd.prog EN1 := Env.addH_ok ED7_ok (by kernel_rfl) h_finalN_ok
noncomputable def EN2 : Env := EN1.addH 13 h_stepN
theorem EN2_ok : EnvOk Tryd.prog EN2 := Env.addH_ok EN1_ok (by kernel_rfl) h_stepN_ok
noncomputable def EN3 : Env := EN2.add 14 h_awake8
theorem EN3_ok : EnvOk Tryd.prog EN3 := Env.add_ok EN2_ok (by kernel_rfl) h_awake8_ok
noncomputable def EN4 : Env := { EN3 with bp := fun T => Nat.beq T 32 }
theorem EN4_ok : EnvOk Tryd.prog EN4 := ⟨EN3_ok.g, EN3_ok.s, EN3_ok.t, EN3_ok.h⟩
set_option smartUnfolding false in
theorem pc_AggNone (v : V) : PC Tryd.prog GV 3 [encV v] (.bool true) := by
  refine pc_fin EN4_ok mixed (show Tryd.prog.funcs[3]? = some Tryd.f3 from rfl) ?_
  refine loop_unroll EN4_ok mixed 4 ?_
  repeat' (refine BR.mk (fun h => ?_) (fun h => ?_) <;> try contradiction)
  · exact ⟨⟨by decide, by decide⟩, rfl⟩
  · exact ⟨by decide, rfl⟩
  · exact ⟨⟨by decide, by decide⟩, rfl⟩
  · exact ⟨by decide, rfl⟩
  · exact (rfl : (0 : Nat) = 0)
  · exact (rfl : (0 : Nat) = 0)
  · exact (rfl : (0 : Nat) = 0)
  · exact Fini.mk rfl

end Go.Proofs.YtbpnnilocbgdbaaDoor
