/- The package agg: values in another order. -/
import Derived.Test.YtejepcnoflahkaaGreatDoorAM4
namespace Go.Proofs.YtejepcnoflahkaaGreatDoor
open Go Go.Ab
set_option linter.unusedVariables false
set_option linter.unusedSimpArgs false
set_option maxRecDepth 100000
set_option maxHeartbeats 8000000

/-- the value x put at place k -/
def putN (out : List V) (x : V) (k : Nat) : List V := out.take k ++ x :: out.drop k
/-- the place of the value i -/
def placeN (bs : List UInt8) (i : Nat) : Nat := if i < bs.length then (bs.getD i 0).toNat % (i + 1) else 0
/-- the first i values turned -/
def turnF (l : List V) (bs : List UInt8) : Nat → List V
  | 0 => []
  | i + 1 => putN (turnF l bs i) (l.getD i null) (placeN bs i)
theorem put_len (out : List V) (x : V) (k : Nat) : (putN out x k).length = out.length + 1 := by
  unfold putN
  rw [List.length_append, List.length_cons, List.length_take, List.length_drop]; omega
theorem turn_len (l : List V) (bs : List UInt8) : ∀ i, (turnF l bs i).length = i
  | 0 => rfl
  | i + 1 => by unfold turnF; rw [put_len, turn_len l bs i]
theorem put_perm (out : List V) (x : V) (k : Nat) : (putN out x k).Perm (x :: out) := by
  unfold putN
  refine List.perm_middle.trans ?_
  rw [List.take_append_drop]
theorem turn_perm (l : List V) (bs : List UInt8) : ∀ i, i ≤ l.length → (turnF l bs i).Perm (l.take i)
  | 0, _ => by unfold turnF; rw [List.take_zero]
  | i + 1, h => by
    unfold turnF
    refine (put_perm _ _ _).trans ?_
    rw [List.take_succ_eq_append_getElem (by omega), List.getD_eq_getElem?_getD, List.getElem?_eq_getElem (by omega)]
    exact ((turn_perm l bs i (by omega)).cons _).trans (List.perm_append_comm (l₁ := [_]))
theorem place_le (bs : List UInt8) (i : Nat) : placeN bs i ≤ i := by
  unfold placeN
  split
  · have := Nat.mod_lt ((bs.getD i 0).toNat) (show 0 < i + 1 by omega); omega
  · omega
theorem put_vF (out : List V) (x : V) (e : Nat → AV) {P : Nat} (k : Nat) (hP : P = k) (hk : k ≤ out.length) (j : Nat) :
    joinF (0 + P + 1) (joinF (0 + P) (joinF 0 e (vF out)) (elemA true 3 [.int .u8 x.k, .int .i64 x.n, .str x.s])) (fun q => vF out (P + q)) j = vF (putN out x k) j := by
  subst hP
  have hl : (out.take P).length = P := by rw [List.length_take]; omega
  unfold vF putN
  rw [List.getD_eq_getElem?_getD]
  by_cases h1 : j < P
  · rw [joinF_lo (by omega), joinF_lo (by omega), List.getElem?_append_left (by omega), List.getElem?_take, if_pos h1]
    rfl
  · rw [List.getElem?_append_right (by omega), hl]
    by_cases h2 : j = P
    · subst h2
      rw [joinF_lo (by omega), joinF_hi (by omega), show j - (0 + j) = 0 from by omega, Nat.sub_self]
      rfl
    · rw [joinF_hi (by omega), show j - P = (j - (0 + P + 1)) + 1 from by omega, List.getElem?_cons_succ, List.getElem?_drop, List.getD_eq_getElem?_getD]
@[reducible] def placeE (bs : List UInt8) (i : Nat) : Int := (IntKind.i64.wrap (((bs.getD ((i : Int)).toNat 0).toNat : Nat) : Int)).tmod (IntKind.i64.wrap ((i : Int) + 1))
theorem place_is (bs : List UInt8) (i : Nat) (hi : i < bs.length) (h : i ≤ 1000000) : placeE bs i = (placeN bs i : Int) := by
  have hb := (bs.getD i 0).toNat_lt
  unfold placeE
  rw [Int.toNat_natCast, wrap_id (n := (((bs.getD i 0).toNat : Nat) : Int)) (by unfold i64; omega), wrap_id (n := (i : Int) + 1) (by unfold i64; omega)]
  unfold placeN
  rw [if_pos hi, Int.tmod_eq_emod_of_nonneg (by omega), show (i : Int) + 1 = ((i + 1 : Nat) : Int) from by omega]
  exact (Int.natCast_emod _ _).symm
theorem lt_one {P : Nat → Prop} (h : P 0) : ∀ q, q < 1 → P q := fun q hq => by
  have : q = 0 := by omega
  rw [this]; exact h
theorem join_cells (out : List V) (x : V) (e : Nat → AV) (P : Nat) : ∀ q, q < 0 + P + 1 → (joinF (0 + P) (joinF 0 e (vF out)) (elemA true 3 [.int .u8 x.k, .int .i64 x.n, .str x.s]) q).cells.length = 3 := fun q hq => by
  by_cases h : q < P
  · rw [joinF_lo (by omega)]; rfl
  · rw [joinF_hi (by omega), show q - (0 + P) = 0 from by omega]; rfl
def h_bytes (n : Nat) (f : Nat → AV) : List UInt8 := (List.range n).map fun i => match f i with
  | .int _ b => UInt8.ofNat b.toNat
  | _ => 0
theorem strF_bytes {n : Nat} {f : Nat → AV} (hf : ∀ i, i < n → isByte (f i)) : ∀ i, i < n → f i = strF (h_bytes n f) i := fun i hi => by
  have h := hf i hi
  have e : (h_bytes n f).getD i 0 = (match f i with
    | .int _ b => UInt8.ofNat b.toNat
    | _ => 0) := by
    unfold h_bytes
    simp [List.getD_eq_getElem?_getD, hi]
  unfold strF
  rw [e]
  generalize f i = x at h ⊢
  cases x <;> first | exact h.elim | skip
  rename_i k b
  cases k <;> first | exact h.elim | skip
  have h : 0 ≤ b ∧ b < 256 := h
  show AV.int .u8 b = AV.int .u8 (((UInt8.ofNat b.toNat).toNat : Nat) : Int)
  rw [u8_of b h]
theorem h_bytes_len (n : Nat) (f : Nat → AV) : (h_bytes n f).length = n := by simp [h_bytes]
noncomputable def h_turned : List AV → CR
  | [.sl _ n f, .sl _ q g] => @CR.need ((∀ i, i < n → isV (f i) = true) ∧ n ≤ 1000000 ∧ (∀ i, i < q → isByte (g i)) ∧ q ≤ 9223372036854775807) (Classical.propDecidable _) (.sl .no n (vF (turnF (lO n f) (h_bytes q g) n)))
  | _ => .no
noncomputable def EE3 : Env := EE2
theorem EE3_ok : EnvOk Tryz.prog EE3 := EE2_ok
end Go.Proofs.YtejepcnoflahkaaGreatDoor
