/- AggOrder: a total hangs not on the order of its values: the walk. -/
import Derived.Test.YtejepcnoflahkaaGreatDoorATurn
import Derived.Test.YtejepcnoflahkaaGreatDoorAM2
namespace Go.Proofs.YtejepcnoflahkaaGreatDoor
open Go Go.Ab
set_option linter.unusedVariables false
set_option linter.unusedSimpArgs false
set_option maxRecDepth 100000
set_option maxHeartbeats 8000000

theorem right_ok {l : List V} (h : rightL l = true) (hi : ∀ x ∈ l, i64 x.n) : OkL l ∧ (∀ x ∈ l, okV' x) ∧ l.length ≤ 60 := by
  unfold rightL smallL at h
  simp only [Bool.and_eq_true] at h
  have h1 := of_decide_eq_true h.1.1
  have h2 := List.all_eq_true.1 h.2
  exact ⟨⟨by omega, h2, hi⟩, fun x hx => ⟨h2 x hx, hi x hx⟩, by omega⟩
@[reducible] def nameE (w : Int) : List UInt8 := names.getD ((IntKind.i64.wrap w).tmod 7).toNat []
theorem seven {w : Int} (hw : 0 ≤ w ∧ w ≤ 255) : 0 ≤ (IntKind.i64.wrap w).tmod 7 ∧ (IntKind.i64.wrap w).tmod 7 < 7 := by
  rw [wrap_id (by unfold i64; omega)]
  exact ⟨Int.tmod_nonneg _ hw.1, Int.tmod_lt_of_pos _ (by decide)⟩
theorem bytes_strF (bs : List UInt8) : h_bytes bs.length (strF bs) = bs := by
  refine List.ext_getElem (h_bytes_len _ _) fun i h1 h2 => ?_
  unfold h_bytes strF
  simp [h2, List.getD_eq_getElem?_getD]
theorem byte_strF (bs : List UInt8) (i : Nat) : isByte (strF bs i) := by
  have := (bs.getD i 0).toNat_lt
  show 0 ≤ (((bs.getD i 0).toNat : Nat) : Int) ∧ (((bs.getD i 0).toNat : Nat) : Int) < 256
  omega
/-- two answers are the same, as the code asks it -/
@[reducible] def sameV (x y : V) : Bool := x.k == y.k && (x.n == y.n && (x.s == y.s && true))
theorem same_v {x y : V} (h : x = y) : sameV x y = true := by subst h; simp [sameV]
theorem same_e {x y : R} (h : x = y) : (x.e == y.e) = true := by subst h; simp
theorem okL_perm {l m : List V} (hp : l.Perm m) (h : OkL l) : OkL m := ⟨by rw [← hp.length_eq]; exact h.1, fun x hx => h.2.1 x (hp.mem_iff.2 hx), fun x hx => h.2.2 x (hp.mem_iff.2 hx)⟩
end Go.Proofs.YtejepcnoflahkaaGreatDoor
