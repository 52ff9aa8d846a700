/- Contracts of functions, tier 7: WRITTEN BY A SMALL PROGRAM of this session (gen.py). -/
import Derived.Test.YtkkpjdgahdljbaaGreatDoorVWalk6b
namespace Go.Proofs.YtkkpjdgahdljbaaGreatDoor
open Go Go.Ab
set_option linter.unusedVariables false
set_option linter.unusedSimpArgs false
set_option maxRecDepth 100000
set_option maxHeartbeats 4000000

theorem numS_i64 (s : List UInt8) : i64 (numS s) := by
  have := digs_le (signed s) 0 (by decide)
  unfold numS i64
  split
  · omega
  · split <;> omega
theorem intV_i64 {v : V} (h : i64 v.n) : i64 (intV v) := by
  unfold intV
  split
  · exact h
  · split
    · decide
    · exact numS_i64 _

theorem pc_three (a b : V) (and : Bool) (hn : a.s.length ≤ 9223372036854775807 ∧ b.s.length ≤ 9223372036854775807) : PC Tryz.prog GV 103 [encV a, encV b, .bool and] (encR (threeR a b and)) := by
  refine pc_fin E6b_ok mixed (show Tryz.prog.funcs[103]? = some Tryz.f103 from rfl) ?_
  obtain ⟨ak, an, az⟩ := a
  obtain ⟨bk, bn, bz⟩ := b
  repeat' (refine BR.mk (fun h => ?_) (fun h => ?_) <;> try contradiction)
  any_goals first | exact hn.1 | exact hn.2
  all_goals try (show commutes _ _ = true; kernel_rfl)
  all_goals refine Fini.mk ?_
  all_goals unfold threeR
  all_goals first
    | (simp_all [encR, encV, null]; done)
    | (cases hx : truV ⟨ak, an, az⟩ <;> cases hy : truV ⟨bk, bn, bz⟩ <;> cases and <;> simp_all [encR, encV, null]; done)

def h_three : List AV → CR
  | [.agg [.int .u8 ak, .int .i64 an, .str az], .agg [.int .u8 bk, .int .i64 bn, .str bz], .bool and] => .need (az.length ≤ 9223372036854775807 ∧ bz.length ≤ 9223372036854775807) (encR (threeR ⟨ak, an, az⟩ ⟨bk, bn, bz⟩ and))
  | _ => .no
theorem h_three_ok (xs : List AV) : CRok Tryz.prog GV 103 xs (h_three xs) := by
  unfold h_three
  split
  · rename_i ak an az bk bn bz and
    exact fun hn => pc_three ⟨ak, an, az⟩ ⟨bk, bn, bz⟩ and hn
  · trivial

theorem pc_Cast (sg : List UInt8) (v : V) (hn : i64 v.n ∧ v.s.length ≤ 9223372036854775807) : PC Tryz.prog GV 24 [.str sg, encV v] (encR (castR sg v)) := by
  refine pc_fin E6b_ok mixed (show Tryz.prog.funcs[24]? = some Tryz.f24 from rfl) ?_
  obtain ⟨vk, vn, vz⟩ := v
  repeat' (refine BR.mk (fun h => ?_) (fun h => ?_) <;> try contradiction)
  any_goals first | exact hn.1 | exact hn.2
  all_goals try (show commutes _ _ = true; kernel_rfl)
  all_goals refine Fini.mk ?_
  all_goals unfold castR
  all_goals first
    | (simp_all [encR, encV, null, numV]; done)

def h_Cast : List AV → CR
  | [.str sg, .agg [.int .u8 vk, .int .i64 vn, .str vz]] => .need (i64 vn ∧ vz.length ≤ 9223372036854775807) (encR (castR sg ⟨vk, vn, vz⟩))
  | _ => .no
theorem h_Cast_ok (xs : List AV) : CRok Tryz.prog GV 24 xs (h_Cast xs) := by
  unfold h_Cast
  split
  · rename_i sg vk vn vz
    exact fun hn => pc_Cast sg ⟨vk, vn, vz⟩ hn
  · trivial

def E7_0 : Env := E6b.add 103 h_three
theorem E7_0_ok : EnvOk Tryz.prog E7_0 := Env.add_ok E6b_ok (by kernel_rfl) h_three_ok

def E7 : Env := E7_0.add 24 h_Cast
theorem E7_ok : EnvOk Tryz.prog E7 := Env.add_ok E7_0_ok (by kernel_rfl) h_Cast_ok

end Go.Proofs.YtkkpjdgahdljbaaGreatDoor
