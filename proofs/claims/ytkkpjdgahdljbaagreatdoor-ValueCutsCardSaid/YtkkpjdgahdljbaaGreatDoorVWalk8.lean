/- Contracts of functions, tier 8: WRITTEN BY A SMALL PROGRAM of this session (gen.py). -/
import Derived.Test.YtkkpjdgahdljbaaGreatDoorVWalk7
import Derived.Lib.ItoaLen
namespace Go.Proofs.YtkkpjdgahdljbaaGreatDoor
open Go Go.Ab
set_option linter.unusedVariables false
set_option linter.unusedSimpArgs false
set_option maxRecDepth 100000
set_option maxHeartbeats 4000000

theorem findF_iff (s : List UInt8) (f : Nat → List UInt8) : ∀ (k i : Nat), findF s f i k ≥ 0 ↔ ((List.range' i k).any fun j => s == f j) = true
  | 0, i => by simp [findF]
  | k + 1, i => by
    simp only [findF, List.range'_succ, List.any_cons, Bool.or_eq_true]
    have ih := findF_iff s f k (i + 1)
    by_cases h : (s == f i) = true
    · rw [if_pos h]; exact ⟨fun _ => .inl h, fun _ => by omega⟩
    · rw [if_neg h, ih]; exact ⟨.inr, fun hh => hh.resolve_left h⟩
theorem findF_neg (s : List UInt8) (f : Nat → List UInt8) (k i : Nat) : decide (findF s f i k ≥ 0) = (List.range' i k).any fun j => s == f j := by
  rw [Bool.eq_iff_iff, decide_eq_true_iff]
  exact findF_iff s f k i
theorem has_known (sg : List UInt8) : hasF 15 (elemA false 1 (signs.map AV.str)) sg = known sg := by
  unfold hasF known
  rw [findF_neg]
  rfl
theorem strs_ok : ∀ i, i < 15 → isStr (elemA false 1 (signs.map AV.str) i) = true := by
  intro i hi
  have : i = 0 ∨ i = 1 ∨ i = 2 ∨ i = 3 ∨ i = 4 ∨ i = 5 ∨ i = 6 ∨ i = 7 ∨ i = 8 ∨ i = 9 ∨ i = 10 ∨ i = 11 ∨ i = 12 ∨ i = 13 ∨ i = 14 := by omega
  rcases this with rfl | rfl | rfl | rfl | rfl | rfl | rfl | rfl | rfl | rfl | rfl | rfl | rfl | rfl | rfl <;> rfl

theorem right_len {v : V} (h : right v = true) : v.s.length ≤ 65536 := by
  unfold right at h
  split at h
  · simp at h; simp [h.2]
  · split at h
    · simp at h; simp [h]
    · split at h
      · simp at h; exact h.2
      · cases h
theorem textV_len {v : V} (h : right v = true) (hn : i64 v.n) : (textV v).length ≤ 65536 := by
  unfold textV
  split
  · unfold i64 at hn
    unfold Lib.itoa
    split
    · have := Lib.nDigits_le20 v.n.natAbs (by omega)
      rw [List.length_cons, Lib.decDigits_length]; omega
    · have := Lib.nDigits_le20 v.n.toNat (by omega)
      rw [Lib.decDigits_length]; omega
  · split
    · simp
    · exact right_len h
theorem lens_add {a b : V} (h1 : (!right a) = false) (h2 : (!right b) = false) (h3 : i64 a.n) (h4 : i64 b.n) : (textV a).length + (textV b).length ≤ 9223372036854775807 := by
  have := textV_len (v := a) (by simpa using h1) h3
  have := textV_len (v := b) (by simpa using h2) h4
  omega
theorem lens_and {a b : V} (h1 : (!right a) = false) (h2 : (!right b) = false) (h3 : i64 a.n) (h4 : i64 b.n) : (textV a).length ≤ 9223372036854775807 ∧ (textV b).length ≤ 9223372036854775807 := by
  have := textV_len (v := a) (by simpa using h1) h3
  have := textV_len (v := b) (by simpa using h2) h4
  exact ⟨by omega, by omega⟩
theorem strs_need : 15 ≤ 9223372036854775807 ∧ ∀ i, i < 15 → isStr (elemA false 1 (signs.map AV.str) i) = true := ⟨by decide, strs_ok⟩

theorem pc_One (sg : List UInt8) (a : V) (hn : i64 a.n ∧ a.s.length ≤ 9223372036854775807) : PC Tryz.prog GV 23 [.str sg, encV a] (encR (oneR sg a)) := by
  refine pc_fin E7_ok mixed (show Tryz.prog.funcs[23]? = some Tryz.f23 from rfl) ?_
  obtain ⟨ak, an, az⟩ := a
  repeat' (refine BR.mk (fun h => ?_) (fun h => ?_) <;> try contradiction)
  any_goals first | exact hn.1 | exact hn.2
  all_goals try (show commutes _ _ = true; kernel_rfl)
  any_goals (refine ⟨by decide, ?_⟩; exact intV_i64 hn.1)
  all_goals refine Fini.mk ?_
  all_goals unfold oneR
  all_goals first
    | (simp_all [encR, encV, null, numV]; done)

def h_One : List AV → CR
  | [.str sg, .agg [.int .u8 ak, .int .i64 an, .str az]] => .need (i64 an ∧ az.length ≤ 9223372036854775807) (encR (oneR sg ⟨ak, an, az⟩))
  | _ => .no
theorem h_One_ok (xs : List AV) : CRok Tryz.prog GV 23 xs (h_One xs) := by
  unfold h_One
  split
  · rename_i sg ak an az
    exact fun hn => pc_One sg ⟨ak, an, az⟩ hn
  · trivial

theorem pc_Op (sg : List UInt8) (a b : V) (hn : (i64 a.n ∧ a.s.length ≤ 9223372036854775807) ∧ i64 b.n ∧ b.s.length ≤ 9223372036854775807) : PC Tryz.prog GV 22 [.str sg, encV a, encV b] (encR (opR sg a b)) := by
  refine pc_fin E7_ok mixed (show Tryz.prog.funcs[22]? = some Tryz.f22 from rfl) ?_
  have hK := has_known sg
  dsimp only [signs, List.map_cons, List.map_nil] at hK
  obtain ⟨ak, an, az⟩ := a
  obtain ⟨bk, bn, bz⟩ := b
  repeat' (refine BR.mk (fun h => ?_) (fun h => ?_) <;> try contradiction)
  all_goals try (show commutes _ _ = true; kernel_rfl)
  any_goals exact strs_need
  all_goals dsimp only at hn
  all_goals first | exact hn.1.1 | exact hn.1.2 | exact hn.2.1 | exact hn.2.2 | exact And.intro hn.1.2 hn.2.2 | exact And.intro (intV_i64 hn.1.1) (intV_i64 hn.2.1) | skip
  all_goals first | (refine Fini.mk ?_; dsimp only [TD.agg, List.toList_toArray] at *) | dsimp only [TD.agg, List.toList_toArray] at *
  all_goals first
    | exact lens_add (‹(!right ⟨ak, an, az⟩) = false›) (‹(!right ⟨bk, bn, bz⟩) = false›) hn.1.1 hn.2.1
    | exact lens_and (‹(!right ⟨ak, an, az⟩) = false›) (‹(!right ⟨bk, bn, bz⟩) = false›) hn.1.1 hn.2.1
    | skip
  all_goals first | (refine Fini.mk ?_; dsimp only [TD.agg, List.toList_toArray] at *) | skip
  all_goals unfold opR
  all_goals first
    | (simp_all [encR, encV, null, numV]; done)
    | (have hl := of_decide_eq_false ‹decide (((textV ⟨bk, bn, bz⟩).length : Int) > 1000) = false›
       simp only [hl, if_false]
       simp_all [encR, encV, null, numV]; done)

def h_Op : List AV → CR
  | [.str sg, .agg [.int .u8 ak, .int .i64 an, .str az], .agg [.int .u8 bk, .int .i64 bn, .str bz]] => .need ((i64 an ∧ az.length ≤ 9223372036854775807) ∧ i64 bn ∧ bz.length ≤ 9223372036854775807) (encR (opR sg ⟨ak, an, az⟩ ⟨bk, bn, bz⟩))
  | _ => .no
theorem h_Op_ok (xs : List AV) : CRok Tryz.prog GV 22 xs (h_Op xs) := by
  unfold h_Op
  split
  · rename_i sg ak an az bk bn bz
    exact fun hn => pc_Op sg ⟨ak, an, az⟩ ⟨bk, bn, bz⟩ hn
  · trivial

def E8_0 : Env := E7.add 23 h_One
theorem E8_0_ok : EnvOk Tryz.prog E8_0 := Env.add_ok E7_ok (by kernel_rfl) h_One_ok

def E8 : Env := E8_0.add 22 h_Op
theorem E8_ok : EnvOk Tryz.prog E8 := Env.add_ok E8_0_ok (by kernel_rfl) h_Op_ok

end Go.Proofs.YtkkpjdgahdljbaaGreatDoor
