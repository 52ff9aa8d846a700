/- Contracts of functions, tier 6b: WRITTEN BY A SMALL PROGRAM of this session (gen.py). -/
import Derived.Test.YtkkpjdgahdljbaaGreatDoorVWalk6
import Derived.Test.YtkkpjdgahdljbaaGreatDoorVLike
namespace Go.Proofs.YtkkpjdgahdljbaaGreatDoor
open Go Go.Ab
set_option linter.unusedVariables false
set_option linter.unusedSimpArgs false
set_option maxRecDepth 100000
set_option maxHeartbeats 4000000

theorem pc_Like (s p : List UInt8) (hn : s.length ≤ 9223372036854775807 ∧ p.length ≤ 9223372036854775807) : PC Tryz.prog GV 35 [.str s, .str p] (.bool (likeV s p)) := by
  refine pc_fin E6_ok mixed (show Tryz.prog.funcs[35]? = some Tryz.f35 from rfl) ?_
  obtain ⟨hs, hp⟩ := hn
  unfold likeV
  refine loop_fam E6_ok mixed (σ := Nat × Nat × Int × Nat) (fun x => LInv s p x.1 x.2.1 x.2.2.1 x.2.2.2) (fun x => (s.length - x.2.2.2) * (s.length + p.length + 1) + (s.length - x.1) + (p.length - x.2.1)) (0, 0, -1, 0) LInv.start 0 0 [0, 1] (fun x => [(5, .int .i64 x.1), (6, .int .i64 x.2.1), (7, .int .i64 x.2.2.1), (8, .int .i64 x.2.2.2)]) [] (fun _ => []) (fun _ => []) ?_ ?_ ?_ ?_
  · rfl
  · rfl
  · refine Wk.mk' rfl rfl trivial ?_ trivial
    repeat' (refine BR.mk (fun _ => ?_) (fun _ => ?_))
    any_goals first | exact trivial | exact Wv.any _ | (refine Wv.int ?_; with_reducible rfl) | (refine Wv.str ?_; with_reducible rfl) | (refine Wv.bool ?_; with_reducible rfl) | refine Wv.int ?_ | refine Wv.str ?_ | refine Wv.bool ?_ | exact Wv.same rfl
    all_goals rfl
  · rintro ⟨i, k, bk, fr⟩ hI
    repeat' (refine BR.mk (fun h => ?_) (fun h => ?_) <;> try contradiction)
    all_goals try (show commutes _ _ = true; kernel_rfl)
    all_goals try refine Fini.mk ?_
    all_goals simp only [decide_eq_true_eq, decide_eq_false_iff_not, Int.toNat_natCast, byte_37, byte_95, small_eq] at *
    all_goals have hk := hI.hk
    all_goals have hi := hI.hi
    all_goals have hf := hI.hf
    all_goals first
      | exact And.intro (by omega) (by omega)
      | (rw [List.length_drop]; omega)
      | exact congrArg AV.bool ((trimP_nil _).trans (hI.done (by omega)).symm)
      | exact congrArg AV.bool (hI.fail (by omega) (.inl (by omega)) (by omega)).symm
      | exact congrArg AV.bool (hI.fail (by omega) (.inr (And.intro (by omega) (And.intro (by simpa using ‹(p.getD k 0 == 37) = false›) (or_ff (by assumption) (by assumption))))) (by omega)).symm
      | (refine Again.fam (i, k + 1, ((k + 1 : Nat) : Int), i) (hI.star (by omega) (by omega) (by simpa using ‹(p.getD k 0 == 37) = true›)) (mes_star hf (by omega)) rfl rfl rfl rfl trivial ?_ trivial
         repeat' (refine BR.mk (fun _ => ?_) (fun _ => ?_))
         any_goals first | exact trivial | exact Wv.any _ | (refine Wv.int ?_; with_reducible rfl) | (refine Wv.str ?_; with_reducible rfl) | (refine Wv.bool ?_; with_reducible rfl) | refine Wv.int ?_ | refine Wv.str ?_ | refine Wv.bool ?_ | exact Wv.same rfl
         all_goals first | (rw [wrap_id (by unfold i64; omega)]; rfl) | rfl)
      | (refine Again.fam (i + 1, k + 1, bk, fr) (hI.lit (by omega) (by omega) (by simpa using ‹(p.getD k 0 == 37) = false›) (by first | exact or_t1 (by assumption) | exact or_t2 (by assumption))) (mes_lit (by omega) (by omega)) rfl rfl rfl rfl trivial ?_ trivial
         repeat' (refine BR.mk (fun _ => ?_) (fun _ => ?_))
         any_goals first | exact trivial | exact Wv.any _ | (refine Wv.int ?_; with_reducible rfl) | (refine Wv.str ?_; with_reducible rfl) | (refine Wv.bool ?_; with_reducible rfl) | refine Wv.int ?_ | refine Wv.str ?_ | refine Wv.bool ?_ | exact Wv.same rfl
         all_goals first | (rw [wrap_id (by unfold i64; omega)]; rfl) | rfl)
      | (refine Again.fam (fr + 1, bk.toNat, (bk.toNat : Int), fr + 1) (hI.back (b := bk.toNat) (by omega) (.inl (by omega)) (by omega)) (mes_back (by omega)) rfl rfl rfl rfl trivial ?_ trivial
         repeat' (refine BR.mk (fun _ => ?_) (fun _ => ?_))
         any_goals first | exact trivial | exact Wv.any _ | (refine Wv.int ?_; with_reducible rfl) | (refine Wv.str ?_; with_reducible rfl) | (refine Wv.bool ?_; with_reducible rfl) | refine Wv.int ?_ | refine Wv.str ?_ | refine Wv.bool ?_ | exact Wv.same rfl
         all_goals first | (rw [wrap_id (by unfold i64; omega)]; rfl) | omega)
      | (refine Again.fam (fr + 1, bk.toNat, (bk.toNat : Int), fr + 1) (hI.back (b := bk.toNat) (by omega) (.inr (And.intro (by omega) (And.intro (by simpa using ‹(p.getD k 0 == 37) = false›) (or_ff (by assumption) (by assumption))))) (by omega)) (mes_back (by omega)) rfl rfl rfl rfl trivial ?_ trivial
         repeat' (refine BR.mk (fun _ => ?_) (fun _ => ?_))
         any_goals first | exact trivial | exact Wv.any _ | (refine Wv.int ?_; with_reducible rfl) | (refine Wv.str ?_; with_reducible rfl) | (refine Wv.bool ?_; with_reducible rfl) | refine Wv.int ?_ | refine Wv.str ?_ | refine Wv.bool ?_ | exact Wv.same rfl
         all_goals first | (rw [wrap_id (by unfold i64; omega)]; rfl) | omega)
      | skip
    all_goals have hst : stuck s p i k := by first | exact .inl (by omega) | exact .inr (And.intro (by omega) (And.intro (by simpa using ‹(p.getD k 0 == 37) = false›) (or_ff (by assumption) (by assumption))))
    all_goals have hb : LInv s p (fr + 1) bk.toNat (bk.toNat : Int) (fr + 1) := hI.back (b := bk.toNat) (by omega) hst (by omega)
    all_goals refine Again.fam (fr + 1, bk.toNat, (bk.toNat : Int), fr + 1) hb (mes_back (by omega)) rfl rfl rfl rfl trivial ?_ trivial
    all_goals repeat' (refine BR.mk (fun _ => ?_) (fun _ => ?_))
    any_goals first | exact trivial | exact Wv.any _ | (refine Wv.int ?_; with_reducible rfl) | (refine Wv.str ?_; with_reducible rfl) | (refine Wv.bool ?_; with_reducible rfl) | refine Wv.int ?_ | refine Wv.str ?_ | refine Wv.bool ?_ | exact Wv.same rfl
    all_goals first | (rw [wrap_id (by unfold i64; omega)]; rfl) | (show bk = (bk.toNat : Int); omega)

def h_Like : List AV → CR
  | [.str s, .str p] => .need (s.length ≤ 9223372036854775807 ∧ p.length ≤ 9223372036854775807) (.bool (likeV s p))
  | _ => .no
theorem h_Like_ok (xs : List AV) : CRok Tryz.prog GV 35 xs (h_Like xs) := by
  unfold h_Like
  split
  · rename_i s p
    exact fun hn => pc_Like s p hn
  · trivial

def E6b : Env := E6.add 35 h_Like
theorem E6b_ok : EnvOk Tryz.prog E6b := Env.add_ok E6_ok (by kernel_rfl) h_Like_ok

end Go.Proofs.YtkkpjdgahdljbaaGreatDoor
