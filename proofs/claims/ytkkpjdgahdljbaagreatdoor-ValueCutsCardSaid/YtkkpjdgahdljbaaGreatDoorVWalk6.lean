/- Contracts of functions, tier 6: WRITTEN BY A SMALL PROGRAM of this session (gen.py). -/
import Derived.Test.YtkkpjdgahdljbaaGreatDoorVWalk5
namespace Go.Proofs.YtkkpjdgahdljbaaGreatDoor
open Go Go.Ab
set_option linter.unusedVariables false
set_option linter.unusedSimpArgs false
set_option maxRecDepth 100000
set_option maxHeartbeats 4000000

theorem pc_contains0 (n : Nat) (f : Nat → List UInt8) (s : List UInt8) (hn : n ≤ 9223372036854775807) : PC Tryz.prog GV 102 [.sl .no n (fun i => .str (f i)), .str s] (.bool (decide (findF s f 0 n ≥ 0))) := by
  refine pc_fin E5_ok mixed (show Tryz.prog.funcs[102]? = some Tryz.f102 from rfl) ?_
  repeat' (refine BR.mk (fun h => ?_) (fun h => ?_) <;> try contradiction)
  · exact ⟨hn, fun i hi => rfl⟩
  · exact Fini.mk rfl
@[irreducible] def hasF (n : Nat) (f : Nat → AV) (s : List UInt8) : Bool := decide (findF s (fun i => strOf (f i)) 0 n ≥ 0)
theorem pc_contains (tag : Tag) (n : Nat) (f : Nat → AV) (s : List UInt8) (hn : n ≤ 9223372036854775807 ∧ ∀ i, i < n → isStr (f i) = true) : PC Tryz.prog GV 102 [.sl tag n f, .str s] (.bool (hasF n f s)) := by
  unfold hasF
  refine pc_args ?_ (pc_contains0 n (fun i => strOf (f i)) s hn.1)
  intro X vs h
  cases h with | cons h hs => exact .cons (rep_slice (fun i hi => isStr_eq (hn.2 i hi)) (rep_tag h)) hs

def h_contains : List AV → CR
  | [.sl tag n f, .str s] => .need (n ≤ 9223372036854775807 ∧ ∀ i, i < n → isStr (f i) = true) (.bool (hasF n f s))
  | _ => .no
theorem h_contains_ok (xs : List AV) : CRok Tryz.prog GV 102 xs (h_contains xs) := by
  unfold h_contains
  split
  · rename_i tag n f s
    exact fun hn => pc_contains tag n f s hn
  · trivial

theorem pc_Truth (v : V) (hn : v.s.length ≤ 9223372036854775807) : PC Tryz.prog GV 106 [encV v] (.tup [.bool (truV v), .bool (v.k != 0)]) := by
  refine pc_fin E5_ok mixed (show Tryz.prog.funcs[106]? = some Tryz.f106 from rfl) ?_
  repeat' (refine BR.mk (fun h => ?_) (fun h => ?_) <;> try contradiction)
  any_goals exact hn
  all_goals try (show commutes _ _ = true; kernel_rfl)
  all_goals refine Fini.mk ?_
  all_goals unfold truV
  all_goals simp_all

def h_Truth : List AV → CR
  | [.agg [.int .u8 vk, .int .i64 vn, .str vz]] => .need (vz.length ≤ 9223372036854775807) (.tup [.bool (truV ⟨vk, vn, vz⟩), .bool (vk != 0)])
  | _ => .no
theorem h_Truth_ok (xs : List AV) : CRok Tryz.prog GV 106 xs (h_Truth xs) := by
  unfold h_Truth
  split
  · rename_i vk vn vz
    exact fun hn => pc_Truth ⟨vk, vn, vz⟩ hn
  · trivial

theorem pc_small (b : Int) : PC Tryz.prog GV 113 [.int .u8 b] (.int .u8 (smallI b)) := by
  refine pc_fin E5_ok mixed (show Tryz.prog.funcs[113]? = some Tryz.f113 from rfl) ?_
  repeat' (refine BR.mk (fun h => ?_) (fun h => ?_) <;> try contradiction)
  all_goals refine Fini.mk ?_
  all_goals unfold smallI
  all_goals simp_all
  all_goals omega

def h_small : List AV → CR
  | [.int .u8 b] => .yes (.int .u8 (smallI b))
  | _ => .no
theorem h_small_ok (xs : List AV) : CRok Tryz.prog GV 113 xs (h_small xs) := by
  unfold h_small
  split
  · rename_i b
    exact pc_small b
  · trivial

def E6_0 : Env := E5.add 102 h_contains
theorem E6_0_ok : EnvOk Tryz.prog E6_0 := Env.add_ok E5_ok (by kernel_rfl) h_contains_ok

def E6_1 : Env := E6_0.add 106 h_Truth
theorem E6_1_ok : EnvOk Tryz.prog E6_1 := Env.add_ok E6_0_ok (by kernel_rfl) h_Truth_ok

def E6 : Env := E6_1.add 113 h_small
theorem E6_ok : EnvOk Tryz.prog E6 := Env.add_ok E6_1_ok (by kernel_rfl) h_small_ok

end Go.Proofs.YtkkpjdgahdljbaaGreatDoor
