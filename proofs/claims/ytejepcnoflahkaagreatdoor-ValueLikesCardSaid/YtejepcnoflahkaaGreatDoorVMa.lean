/- Contracts of functions, tier 8: WRITTEN BY A SMALL PROGRAM of this session (gen.py). -/
import Derived.Test.YtejepcnoflahkaaGreatDoorVWalk5
import Derived.Test.YtejepcnoflahkaaGreatDoorVLike
import Derived.Lib.ItoaLen
section
namespace Go.Proofs.YtejepcnoflahkaaGreatDoor
open Go Go.Ab
set_option linter.unusedVariables false
set_option linter.unusedSimpArgs false
set_option maxRecDepth 100000
set_option maxHeartbeats 4000000

theorem pc_contains0 (n : Nat) (f : Nat → List UInt8) (s : List UInt8) (hn : n ≤ 9223372036854775807) : PC Tryz.prog GV 66 [.sl .no n (fun i => .str (f i)), .str s] (.bool (decide (findF s f 0 n ≥ 0))) := by
  refine pc_fin E5_ok mixed (show Tryz.prog.funcs[66]? = some Tryz.f66 from rfl) ?_
  repeat' (refine BR.mk (fun h => ?_) (fun h => ?_) <;> try contradiction)
  · exact ⟨hn, fun i hi => rfl⟩
  · exact Fini.mk rfl
@[irreducible] def hasF (n : Nat) (f : Nat → AV) (s : List UInt8) : Bool := decide (findF s (fun i => strOf (f i)) 0 n ≥ 0)
theorem pc_contains (tag : Tag) (n : Nat) (f : Nat → AV) (s : List UInt8) (hn : n ≤ 9223372036854775807 ∧ ∀ i, i < n → isStr (f i) = true) : PC Tryz.prog GV 66 [.sl tag n f, .str s] (.bool (hasF n f s)) := by
  unfold hasF
  refine pc_args ?_ (pc_contains0 n (fun i => strOf (f i)) s hn.1)
  intro X vs h
  cases h with | cons h hs => exact .cons (rep_slice (fun i hi => isStr_eq (hn.2 i hi)) (rep_tag h)) hs

def h_contains : List AV → CR
  | [.sl tag n f, .str s] => .need (n ≤ 9223372036854775807 ∧ ∀ i, i < n → isStr (f i) = true) (.bool (hasF n f s))
  | _ => .no
theorem h_contains_ok (xs : List AV) : CRok Tryz.prog GV 66 xs (h_contains xs) := by
  unfold h_contains
  split
  · rename_i tag n f s
    exact fun hn => pc_contains tag n f s hn
  · trivial

theorem pc_Truth (v : V) (hn : v.s.length ≤ 9223372036854775807) : PC Tryz.prog GV 80 [encV v] (.tup [.bool (truV v), .bool (v.k != 0)]) := by
  refine pc_fin E5_ok mixed (show Tryz.prog.funcs[80]? = some Tryz.f80 from rfl) ?_
  repeat' (refine BR.mk (fun h => ?_) (fun h => ?_) <;> try contradiction)
  any_goals exact hn
  all_goals try (show commutes _ _ = true; kernel_rfl)
  all_goals refine Fini.mk ?_
  all_goals unfold truV
  all_goals simp_all

def h_Truth : List AV → CR
  | [.agg [.int .u8 vk, .int .i64 vn, .str vz]] => .need (vz.length ≤ 9223372036854775807) (.tup [.bool (truV ⟨vk, vn, vz⟩), .bool (vk != 0)])
  | _ => .no
theorem h_Truth_ok (xs : List AV) : CRok Tryz.prog GV 80 xs (h_Truth xs) := by
  unfold h_Truth
  split
  · rename_i vk vn vz
    exact fun hn => pc_Truth ⟨vk, vn, vz⟩ hn
  · trivial

theorem pc_small (b : Int) : PC Tryz.prog GV 113 [.int .u8 b] (.int .u8 (smallI b)) := by
  refine pc_fin E5_ok mixed (show Tryz.prog.funcs[113]? = some Tryz.f113 from rfl) ?_
  repeat' (refine BR.mk (fun h => ?_) (fun h => ?_) <;> try contradiction)
  all_goals refine Fini.mk ?_
  all_goals unfold smallI
  all_goals simp_all
  all_goals omega

def h_small : List AV → CR
  | [.int .u8 b] => .yes (.int .u8 (smallI b))
  | _ => .no
theorem h_small_ok (xs : List AV) : CRok Tryz.prog GV 113 xs (h_small xs) := by
  unfold h_small
  split
  · rename_i b
    exact pc_small b
  · trivial

def E6_0 : Env := E5.add 66 h_contains
theorem E6_0_ok : EnvOk Tryz.prog E6_0 := Env.add_ok E5_ok (by kernel_rfl) h_contains_ok

def E6_1 : Env := E6_0.add 80 h_Truth
theorem E6_1_ok : EnvOk Tryz.prog E6_1 := Env.add_ok E6_0_ok (by kernel_rfl) h_Truth_ok

def E6 : Env := E6_1.add 113 h_small
theorem E6_ok : EnvOk Tryz.prog E6 := Env.add_ok E6_1_ok (by kernel_rfl) h_small_ok

end Go.Proofs.YtejepcnoflahkaaGreatDoor
end

section
namespace Go.Proofs.YtejepcnoflahkaaGreatDoor
open Go Go.Ab
set_option linter.unusedVariables false
set_option linter.unusedSimpArgs false
set_option maxRecDepth 100000
set_option maxHeartbeats 4000000

theorem pc_Like (s p : List UInt8) (hn : s.length ≤ 9223372036854775807 ∧ p.length ≤ 9223372036854775807) : PC Tryz.prog GV 44 [.str s, .str p] (.bool (likeV s p)) := by
  refine pc_fin E6_ok mixed (show Tryz.prog.funcs[44]? = some Tryz.f44 from rfl) ?_
  obtain ⟨hs, hp⟩ := hn
  unfold likeV
  refine loop_fam E6_ok mixed (σ := Nat × Nat × Int × Nat) (fun x => LInv s p x.1 x.2.1 x.2.2.1 x.2.2.2) (fun x => (s.length - x.2.2.2) * (s.length + p.length + 1) + (s.length - x.1) + (p.length - x.2.1)) (0, 0, -1, 0) LInv.start 0 0 [0, 1] (fun x => [(5, .int .i64 x.1), (6, .int .i64 x.2.1), (7, .int .i64 x.2.2.1), (8, .int .i64 x.2.2.2)]) [] (fun _ => []) (fun _ => []) ?_ ?_ ?_ ?_
  · rfl
  · rfl
  · refine Wk.mk' rfl rfl trivial ?_ trivial
    repeat' (refine BR.mk (fun _ => ?_) (fun _ => ?_))
    any_goals first | exact trivial | exact Wv.any _ | (refine Wv.int ?_; with_reducible rfl) | (refine Wv.str ?_; with_reducible rfl) | (refine Wv.bool ?_; with_reducible rfl) | refine Wv.int ?_ | refine Wv.str ?_ | refine Wv.bool ?_ | exact Wv.same rfl
    all_goals rfl
  · rintro ⟨i, k, bk, fr⟩ hI
    repeat' (refine BR.mk (fun h => ?_) (fun h => ?_) <;> try contradiction)
    all_goals try (show commutes _ _ = true; kernel_rfl)
    all_goals try refine Fini.mk ?_
    all_goals simp only [decide_eq_true_eq, decide_eq_false_iff_not, Int.toNat_natCast, byte_37, byte_95, small_eq] at *
    all_goals have hk := hI.hk
    all_goals have hi := hI.hi
    all_goals have hf := hI.hf
    all_goals first
      | exact And.intro (by omega) (by omega)
      | (rw [List.length_drop]; omega)
      | exact congrArg AV.bool ((trimP_nil _).trans (hI.done (by omega)).symm)
      | exact congrArg AV.bool (hI.fail (by omega) (.inl (by omega)) (by omega)).symm
      | exact congrArg AV.bool (hI.fail (by omega) (.inr (And.intro (by omega) (And.intro (by simpa using ‹(p.getD k 0 == 37) = false›) (or_ff (by assumption) (by assumption))))) (by omega)).symm
      | (refine Again.fam (i, k + 1, ((k + 1 : Nat) : Int), i) (hI.star (by omega) (by omega) (by simpa using ‹(p.getD k 0 == 37) = true›)) (mes_star hf (by omega)) rfl rfl rfl rfl trivial ?_ trivial
         repeat' (refine BR.mk (fun _ => ?_) (fun _ => ?_))
         any_goals first | exact trivial | exact Wv.any _ | (refine Wv.int ?_; with_reducible rfl) | (refine Wv.str ?_; with_reducible rfl) | (refine Wv.bool ?_; with_reducible rfl) | refine Wv.int ?_ | refine Wv.str ?_ | refine Wv.bool ?_ | exact Wv.same rfl
         all_goals first | (rw [wrap_id (by unfold i64; omega)]; rfl) | rfl)
      | (refine Again.fam (i + 1, k + 1, bk, fr) (hI.lit (by omega) (by omega) (by simpa using ‹(p.getD k 0 == 37) = false›) (by first | exact or_t1 (by assumption) | exact or_t2 (by assumption))) (mes_lit (by omega) (by omega)) rfl rfl rfl rfl trivial ?_ trivial
         repeat' (refine BR.mk (fun _ => ?_) (fun _ => ?_))
         any_goals first | exact trivial | exact Wv.any _ | (refine Wv.int ?_; with_reducible rfl) | (refine Wv.str ?_; with_reducible rfl) | (refine Wv.bool ?_; with_reducible rfl) | refine Wv.int ?_ | refine Wv.str ?_ | refine Wv.bool ?_ | exact Wv.same rfl
         all_goals first | (rw [wrap_id (by unfold i64; omega)]; rfl) | rfl)
      | (refine Again.fam (fr + 1, bk.toNat, (bk.toNat : Int), fr + 1) (hI.back (b := bk.toNat) (by omega) (.inl (by omega)) (by omega)) (mes_back (by omega)) rfl rfl rfl rfl trivial ?_ trivial
         repeat' (refine BR.mk (fun _ => ?_) (fun _ => ?_))
         any_goals first | exact trivial | exact Wv.any _ | (refine Wv.int ?_; with_reducible rfl) | (refine Wv.str ?_; with_reducible rfl) | (refine Wv.bool ?_; with_reducible rfl) | refine Wv.int ?_ | refine Wv.str ?_ | refine Wv.bool ?_ | exact Wv.same rfl
         all_goals first | (rw [wrap_id (by unfold i64; omega)]; rfl) | omega)
      | (refine Again.fam (fr + 1, bk.toNat, (bk.toNat : Int), fr + 1) (hI.back (b := bk.toNat) (by omega) (.inr (And.intro (by omega) (And.intro (by simpa using ‹(p.getD k 0 == 37) = false›) (or_ff (by assumption) (by assumption))))) (by omega)) (mes_back (by omega)) rfl rfl rfl rfl trivial ?_ trivial
         repeat' (refine BR.mk (fun _ => ?_) (fun _ => ?_))
         any_goals first | exact trivial | exact Wv.any _ | (refine Wv.int ?_; with_reducible rfl) | (refine Wv.str ?_; with_reducible rfl) | (refine Wv.bool ?_; with_reducible rfl) | refine Wv.int ?_ | refine Wv.str ?_ | refine Wv.bool ?_ | exact Wv.same rfl
         all_goals first | (rw [wrap_id (by unfold i64; omega)]; rfl) | omega)
      | skip
    all_goals have hst : stuck s p i k := by first | exact .inl (by omega) | exact .inr (And.intro (by omega) (And.intro (by simpa using ‹(p.getD k 0 == 37) = false›) (or_ff (by assumption) (by assumption))))
    all_goals have hb : LInv s p (fr + 1) bk.toNat (bk.toNat : Int) (fr + 1) := hI.back (b := bk.toNat) (by omega) hst (by omega)
    all_goals refine Again.fam (fr + 1, bk.toNat, (bk.toNat : Int), fr + 1) hb (mes_back (by omega)) rfl rfl rfl rfl trivial ?_ trivial
    all_goals repeat' (refine BR.mk (fun _ => ?_) (fun _ => ?_))
    any_goals first | exact trivial | exact Wv.any _ | (refine Wv.int ?_; with_reducible rfl) | (refine Wv.str ?_; with_reducible rfl) | (refine Wv.bool ?_; with_reducible rfl) | refine Wv.int ?_ | refine Wv.str ?_ | refine Wv.bool ?_ | exact Wv.same rfl
    all_goals first | (rw [wrap_id (by unfold i64; omega)]; rfl) | (show bk = (bk.toNat : Int); omega)

def h_Like : List AV → CR
  | [.str s, .str p] => .need (s.length ≤ 9223372036854775807 ∧ p.length ≤ 9223372036854775807) (.bool (likeV s p))
  | _ => .no
theorem h_Like_ok (xs : List AV) : CRok Tryz.prog GV 44 xs (h_Like xs) := by
  unfold h_Like
  split
  · rename_i s p
    exact fun hn => pc_Like s p hn
  · trivial

def E6b : Env := E6.add 44 h_Like
theorem E6b_ok : EnvOk Tryz.prog E6b := Env.add_ok E6_ok (by kernel_rfl) h_Like_ok

end Go.Proofs.YtejepcnoflahkaaGreatDoor
end

section
namespace Go.Proofs.YtejepcnoflahkaaGreatDoor
open Go Go.Ab
set_option linter.unusedVariables false
set_option linter.unusedSimpArgs false
set_option maxRecDepth 100000
set_option maxHeartbeats 4000000

theorem numS_i64 (s : List UInt8) : i64 (numS s) := by
  have := digs_le (signed s) 0 (by decide)
  unfold numS i64
  split
  · omega
  · split <;> omega
theorem intV_i64 {v : V} (h : i64 v.n) : i64 (intV v) := by
  unfold intV
  split
  · exact h
  · split
    · decide
    · exact numS_i64 _

theorem pc_three (a b : V) (and : Bool) (hn : a.s.length ≤ 9223372036854775807 ∧ b.s.length ≤ 9223372036854775807) : PC Tryz.prog GV 67 [encV a, encV b, .bool and] (encR (threeR a b and)) := by
  refine pc_fin E6b_ok mixed (show Tryz.prog.funcs[67]? = some Tryz.f67 from rfl) ?_
  obtain ⟨ak, an, az⟩ := a
  obtain ⟨bk, bn, bz⟩ := b
  repeat' (refine BR.mk (fun h => ?_) (fun h => ?_) <;> try contradiction)
  any_goals first | exact hn.1 | exact hn.2
  all_goals try (show commutes _ _ = true; kernel_rfl)
  all_goals refine Fini.mk ?_
  all_goals unfold threeR
  all_goals first
    | (simp_all [encR, encV, null]; done)
    | (cases hx : truV ⟨ak, an, az⟩ <;> cases hy : truV ⟨bk, bn, bz⟩ <;> cases and <;> simp_all [encR, encV, null]; done)

def h_three : List AV → CR
  | [.agg [.int .u8 ak, .int .i64 an, .str az], .agg [.int .u8 bk, .int .i64 bn, .str bz], .bool and] => .need (az.length ≤ 9223372036854775807 ∧ bz.length ≤ 9223372036854775807) (encR (threeR ⟨ak, an, az⟩ ⟨bk, bn, bz⟩ and))
  | _ => .no
theorem h_three_ok (xs : List AV) : CRok Tryz.prog GV 67 xs (h_three xs) := by
  unfold h_three
  split
  · rename_i ak an az bk bn bz and
    exact fun hn => pc_three ⟨ak, an, az⟩ ⟨bk, bn, bz⟩ and hn
  · trivial

theorem pc_Cast (sg : List UInt8) (v : V) (hn : i64 v.n ∧ v.s.length ≤ 9223372036854775807) : PC Tryz.prog GV 25 [.str sg, encV v] (encR (castR sg v)) := by
  refine pc_fin E6b_ok mixed (show Tryz.prog.funcs[25]? = some Tryz.f25 from rfl) ?_
  obtain ⟨vk, vn, vz⟩ := v
  repeat' (refine BR.mk (fun h => ?_) (fun h => ?_) <;> try contradiction)
  any_goals first | exact hn.1 | exact hn.2
  all_goals try (show commutes _ _ = true; kernel_rfl)
  all_goals refine Fini.mk ?_
  all_goals unfold castR
  all_goals first
    | (simp_all [encR, encV, null, numV]; done)

def h_Cast : List AV → CR
  | [.str sg, .agg [.int .u8 vk, .int .i64 vn, .str vz]] => .need (i64 vn ∧ vz.length ≤ 9223372036854775807) (encR (castR sg ⟨vk, vn, vz⟩))
  | _ => .no
theorem h_Cast_ok (xs : List AV) : CRok Tryz.prog GV 25 xs (h_Cast xs) := by
  unfold h_Cast
  split
  · rename_i sg vk vn vz
    exact fun hn => pc_Cast sg ⟨vk, vn, vz⟩ hn
  · trivial

def E7_0 : Env := E6b.add 67 h_three
theorem E7_0_ok : EnvOk Tryz.prog E7_0 := Env.add_ok E6b_ok (by kernel_rfl) h_three_ok

def E7 : Env := E7_0.add 25 h_Cast
theorem E7_ok : EnvOk Tryz.prog E7 := Env.add_ok E7_0_ok (by kernel_rfl) h_Cast_ok

end Go.Proofs.YtejepcnoflahkaaGreatDoor
end

section
namespace Go.Proofs.YtejepcnoflahkaaGreatDoor
open Go Go.Ab
set_option linter.unusedVariables false
set_option linter.unusedSimpArgs false
set_option maxRecDepth 100000
set_option maxHeartbeats 4000000

theorem findF_iff (s : List UInt8) (f : Nat → List UInt8) : ∀ (k i : Nat), findF s f i k ≥ 0 ↔ ((List.range' i k).any fun j => s == f j) = true
  | 0, i => by simp [findF]
  | k + 1, i => by
    simp only [findF, List.range'_succ, List.any_cons, Bool.or_eq_true]
    have ih := findF_iff s f k (i + 1)
    by_cases h : (s == f i) = true
    · rw [if_pos h]; exact ⟨fun _ => .inl h, fun _ => by omega⟩
    · rw [if_neg h, ih]; exact ⟨.inr, fun hh => hh.resolve_left h⟩
theorem findF_neg (s : List UInt8) (f : Nat → List UInt8) (k i : Nat) : decide (findF s f i k ≥ 0) = (List.range' i k).any fun j => s == f j := by
  rw [Bool.eq_iff_iff, decide_eq_true_iff]
  exact findF_iff s f k i
theorem has_known (sg : List UInt8) : hasF 15 (elemA false 1 (signs.map AV.str)) sg = known sg := by
  unfold hasF known
  rw [findF_neg]
  rfl
theorem strs_ok : ∀ i, i < 15 → isStr (elemA false 1 (signs.map AV.str) i) = true := by
  intro i hi
  have : i = 0 ∨ i = 1 ∨ i = 2 ∨ i = 3 ∨ i = 4 ∨ i = 5 ∨ i = 6 ∨ i = 7 ∨ i = 8 ∨ i = 9 ∨ i = 10 ∨ i = 11 ∨ i = 12 ∨ i = 13 ∨ i = 14 := by omega
  rcases this with rfl | rfl | rfl | rfl | rfl | rfl | rfl | rfl | rfl | rfl | rfl | rfl | rfl | rfl | rfl <;> rfl

theorem right_len {v : V} (h : right v = true) : v.s.length ≤ 65536 := by
  unfold right at h
  split at h
  · simp at h; simp [h.2]
  · split at h
    · simp at h; simp [h]
    · split at h
      · simp at h; exact h.2
      · cases h
theorem textV_len {v : V} (h : right v = true) (hn : i64 v.n) : (textV v).length ≤ 65536 := by
  unfold textV
  split
  · unfold i64 at hn
    unfold Lib.itoa
    split
    · have := Lib.nDigits_le20 v.n.natAbs (by omega)
      rw [List.length_cons, Lib.decDigits_length]; omega
    · have := Lib.nDigits_le20 v.n.toNat (by omega)
      rw [Lib.decDigits_length]; omega
  · split
    · simp
    · exact right_len h
theorem lens_add {a b : V} (h1 : (!right a) = false) (h2 : (!right b) = false) (h3 : i64 a.n) (h4 : i64 b.n) : (textV a).length + (textV b).length ≤ 9223372036854775807 := by
  have := textV_len (v := a) (by simpa using h1) h3
  have := textV_len (v := b) (by simpa using h2) h4
  omega
theorem lens_and {a b : V} (h1 : (!right a) = false) (h2 : (!right b) = false) (h3 : i64 a.n) (h4 : i64 b.n) : (textV a).length ≤ 9223372036854775807 ∧ (textV b).length ≤ 9223372036854775807 := by
  have := textV_len (v := a) (by simpa using h1) h3
  have := textV_len (v := b) (by simpa using h2) h4
  exact ⟨by omega, by omega⟩
theorem strs_need : 15 ≤ 9223372036854775807 ∧ ∀ i, i < 15 → isStr (elemA false 1 (signs.map AV.str) i) = true := ⟨by decide, strs_ok⟩

theorem pc_One (sg : List UInt8) (a : V) (hn : i64 a.n ∧ a.s.length ≤ 9223372036854775807) : PC Tryz.prog GV 24 [.str sg, encV a] (encR (oneR sg a)) := by
  refine pc_fin E7_ok mixed (show Tryz.prog.funcs[24]? = some Tryz.f24 from rfl) ?_
  obtain ⟨ak, an, az⟩ := a
  repeat' (refine BR.mk (fun h => ?_) (fun h => ?_) <;> try contradiction)
  any_goals first | exact hn.1 | exact hn.2
  all_goals try (show commutes _ _ = true; kernel_rfl)
  any_goals (refine ⟨by decide, ?_⟩; exact intV_i64 hn.1)
  all_goals refine Fini.mk ?_
  all_goals unfold oneR
  all_goals first
    | (simp_all [encR, encV, null, numV]; done)

def h_One : List AV → CR
  | [.str sg, .agg [.int .u8 ak, .int .i64 an, .str az]] => .need (i64 an ∧ az.length ≤ 9223372036854775807) (encR (oneR sg ⟨ak, an, az⟩))
  | _ => .no
theorem h_One_ok (xs : List AV) : CRok Tryz.prog GV 24 xs (h_One xs) := by
  unfold h_One
  split
  · rename_i sg ak an az
    exact fun hn => pc_One sg ⟨ak, an, az⟩ hn
  · trivial

theorem pc_Op (sg : List UInt8) (a b : V) (hn : (i64 a.n ∧ a.s.length ≤ 9223372036854775807) ∧ i64 b.n ∧ b.s.length ≤ 9223372036854775807) : PC Tryz.prog GV 20 [.str sg, encV a, encV b] (encR (opR sg a b)) := by
  refine pc_fin E7_ok mixed (show Tryz.prog.funcs[20]? = some Tryz.f20 from rfl) ?_
  have hK := has_known sg
  dsimp only [signs, List.map_cons, List.map_nil] at hK
  obtain ⟨ak, an, az⟩ := a
  obtain ⟨bk, bn, bz⟩ := b
  repeat' (refine BR.mk (fun h => ?_) (fun h => ?_) <;> try contradiction)
  all_goals try (show commutes _ _ = true; kernel_rfl)
  any_goals exact strs_need
  all_goals dsimp only at hn
  all_goals first | exact hn.1.1 | exact hn.1.2 | exact hn.2.1 | exact hn.2.2 | exact And.intro hn.1.2 hn.2.2 | exact And.intro (intV_i64 hn.1.1) (intV_i64 hn.2.1) | skip
  all_goals first | (refine Fini.mk ?_; dsimp only [TD.agg, List.toList_toArray] at *) | dsimp only [TD.agg, List.toList_toArray] at *
  all_goals first
    | exact lens_add (‹(!right ⟨ak, an, az⟩) = false›) (‹(!right ⟨bk, bn, bz⟩) = false›) hn.1.1 hn.2.1
    | exact lens_and (‹(!right ⟨ak, an, az⟩) = false›) (‹(!right ⟨bk, bn, bz⟩) = false›) hn.1.1 hn.2.1
    | skip
  all_goals first | (refine Fini.mk ?_; dsimp only [TD.agg, List.toList_toArray] at *) | skip
  all_goals unfold opR
  all_goals first
    | (simp_all [encR, encV, null, numV]; done)
    | (have hl := of_decide_eq_false ‹decide (((textV ⟨bk, bn, bz⟩).length : Int) > 1000) = false›
       simp only [hl, if_false]
       simp_all [encR, encV, null, numV]; done)

def h_Op : List AV → CR
  | [.str sg, .agg [.int .u8 ak, .int .i64 an, .str az], .agg [.int .u8 bk, .int .i64 bn, .str bz]] => .need ((i64 an ∧ az.length ≤ 9223372036854775807) ∧ i64 bn ∧ bz.length ≤ 9223372036854775807) (encR (opR sg ⟨ak, an, az⟩ ⟨bk, bn, bz⟩))
  | _ => .no
theorem h_Op_ok (xs : List AV) : CRok Tryz.prog GV 20 xs (h_Op xs) := by
  unfold h_Op
  split
  · rename_i sg ak an az bk bn bz
    exact fun hn => pc_Op sg ⟨ak, an, az⟩ ⟨bk, bn, bz⟩ hn
  · trivial

def E8_0 : Env := E7.add 24 h_One
theorem E8_0_ok : EnvOk Tryz.prog E8_0 := Env.add_ok E7_ok (by kernel_rfl) h_One_ok

def E8 : Env := E8_0.add 20 h_Op
theorem E8_ok : EnvOk Tryz.prog E8 := Env.add_ok E8_0_ok (by kernel_rfl) h_Op_ok

end Go.Proofs.YtejepcnoflahkaaGreatDoor
end
