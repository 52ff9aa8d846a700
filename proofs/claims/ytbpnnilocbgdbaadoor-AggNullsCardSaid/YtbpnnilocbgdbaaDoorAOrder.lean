/- AggOrder: a total hangs not on the order of its values: the walk. -/
import Derived.Test.YtbpnnilocbgdbaaDoorATurn
import Derived.Test.YtbpnnilocbgdbaaDoorAM2
namespace Go.Proofs.YtbpnnilocbgdbaaDoor
open Go Go.Ab
set_option linter.unusedVariables false
set_option linter.unusedSimpArgs false
set_option maxRecDepth 100000
set_option maxHeartbeats 8000000

theorem right_ok {l : List V} (h : rightL l = true) (hi : ∀ x ∈ l, i64 x.n) : OkL l ∧ (∀ x ∈ l, okV' x) ∧ l.length ≤ 60 := by
  unfold rightL smallL at h
  simp only [Bool.and_eq_true] at h
  have h1 := of_decide_eq_true h.1.1
  have h2 := List.all_eq_true.1 h.2
  exact ⟨⟨by omega, h2, hi⟩, fun x hx => ⟨h2 x hx, hi x hx⟩, by omega⟩
@[reducible] def nameE (w : Int) : List UInt8 := names.getD ((IntKind.i64.wrap w).tmod 7).toNat []
theorem seven {w : Int} (hw : 0 ≤ w ∧ w ≤ 255) : 0 ≤ (IntKind.i64.wrap w).tmod 7 ∧ (IntKind.i64.wrap w).tmod 7 < 7 := by
  rw [wrap_id (by unfold i64; omega)]
  exact ⟨Int.tmod_nonneg _ hw.1, Int.tmod_lt_of_pos _ (by decide)⟩
theorem bytes_strF (bs : List UInt8) : h_bytes bs.length (strF bs) = bs := by
  refine List.ext_getElem (h_bytes_len _ _) fun i h1 h2 => ?_
  unfold h_bytes strF
  simp [h2, List.getD_eq_getElem?_getD]
theorem byte_strF (bs : List UInt8) (i : Nat) : isByte (strF bs i) := by
  have := (bs.getD i 0).toNat_lt
  show 0 ≤ (((bs.getD i 0).toNat : Nat) : Int) ∧ (((bs.getD i 0).toNat : Nat) : Int) < 256
  omega
/-- two answers are the same, as the code asks it -/
@[reducible] def sameV (x y : V) : Bool := x.k == y.k && (x.n == y.n && (x.s == y.s && true))
theorem same_v {x y : V} (h : x = y) : sameV x y = true := by subst h; simp [sameV]
theorem same_e {x y : R} (h : x = y) : (x.e == y.e) = true := by subst h; simp
theorem okL_perm {l m : List V} (hp : l.Perm m) (h : OkL l) : OkL m := ⟨by rw [← hp.length_eq]; exact h.1, fun x hx => h.2.1 x (hp.mem_iff.2 hx), fun x hx => h.2.2 x (hp.mem_iff.2 hx)⟩
set_option smartUnfolding false in
theorem pc_AggOrder (w : Int) (hw : 0 ≤ w ∧ w ≤ 255) (d : Bool) (l : List V) (hl : l.length ≤ 9223372036854775807) (hi : ∀ x ∈ l, i64 x.n) (bs : List UInt8) (hb : bs.length ≤ 9223372036854775807) : PC Tryd.prog GV 4 [.int .u8 w, .bool d, .sl .no l.length (vF l), .sl .no bs.length (strF bs)] (.bool true) := by
  refine pc_fin EE3_ok mixed (show Tryd.prog.funcs[4]? = some Tryd.f4 from rfl) ?_
  by_cases hR : rightL l = true
  · obtain ⟨ho, hv, hl60⟩ := right_ok hR hi
    have k1 : (!rightL (lO l.length (vF l))) = false := by rw [lO_vF, hR]; rfl
    have hT : turnF (lO l.length (vF l)) (h_bytes bs.length (strF bs)) l.length = turnF l bs l.length := by rw [lO_vF, bytes_strF]
    have hp : l.Perm (turnF l bs l.length) := by
      have := turn_perm l bs l.length (Nat.le_refl _)
      rw [List.take_length] at this
      exact this.symm
    have hM : lO l.length (vF (turnF (lO l.length (vF l)) (h_bytes bs.length (strF bs)) l.length)) = turnF l bs l.length := by
      rw [hT]
      have := lO_vF (turnF l bs l.length)
      rwa [turn_len] at this
    have hXY : ofS (nameE w) d (lO l.length (vF l)) = ofS (nameE w) d (lO l.length (vF (turnF (lO l.length (vF l)) (h_bytes bs.length (strF bs)) l.length))) := by
      rw [hM, lO_vF]
      exact of_perm hp hv (by omega)
    have k2 := same_v (congrArg R.v hXY)
    have k3 := same_e hXY
    repeat' (refine BR.mk (fun h => ?_) (fun h => ?_) <;> first | with_reducible exact Bool.noConfusion h | with_reducible exact Bool.noConfusion (k1.symm.trans h) | with_reducible exact Bool.noConfusion (k2.symm.trans h) | with_reducible exact Bool.noConfusion (k3.symm.trans h) | skip)
    · exact ⟨fun _ _ => rfl, hl⟩
    · exact (show (7 : Int) ≠ 0 by decide)
    · exact ⟨seven hw, rfl, rfl⟩
    · exact ⟨fun _ _ => rfl, by rw [lO_vF]; exact ho⟩
    · exact ⟨fun _ _ => rfl, by omega, fun i _ => byte_strF bs i, hb⟩
    · exact ⟨fun _ _ => rfl, by rw [hM]; exact okL_perm hp ho⟩
    · exact Fini.mk rfl
  · have k1 : (!rightL (lO l.length (vF l))) = true := by rw [lO_vF]; simpa using hR
    repeat' (refine BR.mk (fun h => ?_) (fun h => ?_) <;> first | with_reducible exact Bool.noConfusion h | with_reducible exact Bool.noConfusion (k1.symm.trans h) | skip)
    · exact ⟨fun _ _ => rfl, hl⟩
    · exact Fini.mk rfl

end Go.Proofs.YtbpnnilocbgdbaaDoor
