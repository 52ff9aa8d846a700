/- The package agg: values in another order. -/
import Derived.Test.YtbpnnilocbgdbaaDoorAM4
namespace Go.Proofs.YtbpnnilocbgdbaaDoor
open Go Go.Ab
set_option linter.unusedVariables false
set_option linter.unusedSimpArgs false
set_option maxRecDepth 100000
set_option maxHeartbeats 8000000

/-- the value x put at place k -/
def putN (out : List V) (x : V) (k : Nat) : List V := out.take k ++ x :: out.drop k
/-- the place of the value i -/
def placeN (bs : List UInt8) (i : Nat) : Nat := if i < bs.length then (bs.getD i 0).toNat % (i + 1) else 0
/-- the first i values turned -/
def turnF (l : List V) (bs : List UInt8) : Nat → List V
  | 0 => []
  | i + 1 => putN (turnF l bs i) (l.getD i null) (placeN bs i)
theorem put_len (out : List V) (x : V) (k : Nat) : (putN out x k).length = out.length + 1 := by
  unfold putN
  rw [List.length_append, List.length_cons, List.length_take, List.length_drop]; omega
theorem turn_len (l : List V) (bs : List UInt8) : ∀ i, (turnF l bs i).length = i
  | 0 => rfl
  | i + 1 => by unfold turnF; rw [put_len, turn_len l bs i]
theorem put_perm (out : List V) (x : V) (k : Nat) : (putN out x k).Perm (x :: out) := by
  unfold putN
  refine List.perm_middle.trans ?_
  rw [List.take_append_drop]
theorem turn_perm (l : List V) (bs : List UInt8) : ∀ i, i ≤ l.length → (turnF l bs i).Perm (l.take i)
  | 0, _ => by unfold turnF; rw [List.take_zero]
  | i + 1, h => by
    unfold turnF
    refine (put_perm _ _ _).trans ?_
    rw [List.take_succ_eq_append_getElem (by omega), List.getD_eq_getElem?_getD, List.getElem?_eq_getElem (by omega)]
    exact ((turn_perm l bs i (by omega)).cons _).trans (List.perm_append_comm (l₁ := [_]))
theorem place_le (bs : List UInt8) (i : Nat) : placeN bs i ≤ i := by
  unfold placeN
  split
  · have := Nat.mod_lt ((bs.getD i 0).toNat) (show 0 < i + 1 by omega); omega
  · omega
theorem put_vF (out : List V) (x : V) (e : Nat → AV) {P : Nat} (k : Nat) (hP : P = k) (hk : k ≤ out.length) (j : Nat) :
    joinF (0 + P + 1) (joinF (0 + P) (joinF 0 e (vF out)) (elemA true 3 [.int .u8 x.k, .int .i64 x.n, .str x.s])) (fun q => vF out (P + q)) j = vF (putN out x k) j := by
  subst hP
  have hl : (out.take P).length = P := by rw [List.length_take]; omega
  unfold vF putN
  rw [List.getD_eq_getElem?_getD]
  by_cases h1 : j < P
  · rw [joinF_lo (by omega), joinF_lo (by omega), List.getElem?_append_left (by omega), List.getElem?_take, if_pos h1]
    rfl
  · rw [List.getElem?_append_right (by omega), hl]
    by_cases h2 : j = P
    · subst h2
      rw [joinF_lo (by omega), joinF_hi (by omega), show j - (0 + j) = 0 from by omega, Nat.sub_self]
      rfl
    · rw [joinF_hi (by omega), show j - P = (j - (0 + P + 1)) + 1 from by omega, List.getElem?_cons_succ, List.getElem?_drop, List.getD_eq_getElem?_getD]
@[reducible] def placeE (bs : List UInt8) (i : Nat) : Int := (IntKind.i64.wrap (((bs.getD ((i : Int)).toNat 0).toNat : Nat) : Int)).tmod (IntKind.i64.wrap ((i : Int) + 1))
theorem place_is (bs : List UInt8) (i : Nat) (hi : i < bs.length) (h : i ≤ 1000000) : placeE bs i = (placeN bs i : Int) := by
  have hb := (bs.getD i 0).toNat_lt
  unfold placeE
  rw [Int.toNat_natCast, wrap_id (n := (((bs.getD i 0).toNat : Nat) : Int)) (by unfold i64; omega), wrap_id (n := (i : Int) + 1) (by unfold i64; omega)]
  unfold placeN
  rw [if_pos hi, Int.tmod_eq_emod_of_nonneg (by omega), show (i : Int) + 1 = ((i + 1 : Nat) : Int) from by omega]
  exact (Int.natCast_emod _ _).symm
theorem lt_one {P : Nat → Prop} (h : P 0) : ∀ q, q < 1 → P q := fun q hq => by
  have : q = 0 := by omega
  rw [this]; exact h
theorem join_cells (out : List V) (x : V) (e : Nat → AV) (P : Nat) : ∀ q, q < 0 + P + 1 → (joinF (0 + P) (joinF 0 e (vF out)) (elemA true 3 [.int .u8 x.k, .int .i64 x.n, .str x.s]) q).cells.length = 3 := fun q hq => by
  by_cases h : q < P
  · rw [joinF_lo (by omega)]; rfl
  · rw [joinF_hi (by omega), show q - (0 + P) = 0 from by omega]; rfl
theorem pc_turned0 (l : List V) (bs : List UInt8) (hl : l.length ≤ 1000000) (hb : bs.length ≤ 9223372036854775807) : PC Tryd.prog GV 18 [.sl .no l.length (vF l), .sl .no bs.length (strF bs)] (.sl .no l.length (vF (turnF l bs l.length))) := by
  refine pc_fin EE2_ok mixed (show Tryd.prog.funcs[18]? = some Tryd.f18 from rfl) ?_
  refine loop_fam EE2_ok mixed (σ := Nat) (fun i => i ≤ l.length) (fun i => l.length - i) 0 (Nat.zero_le _) 0 0 [0, 1] (fun i => [(5, .sl .no i (vF (turnF l bs i))), (6, .int .i64 i)]) [] (fun _ => []) (fun _ => []) ?_ ?_ ?_ ?_
  · rfl
  · rfl
  · refine Wk.mk' rfl rfl trivial ?_ trivial
    repeat' (refine BR.mk (fun _ => ?_) (fun _ => ?_))
    any_goals first | exact trivial | exact Wv.any _ | (refine Wv.int ?_; with_reducible rfl) | (refine Wv.str ?_; with_reducible rfl) | (refine Wv.bool ?_; with_reducible rfl) | refine Wv.int ?_ | refine Wv.str ?_ | refine Wv.bool ?_ | exact Wv.same rfl
    all_goals first | rfl | exact Wv.sl rfl (fun i hi => absurd hi (Nat.not_lt_zero _)) trivial
  · rintro i hi
    by_cases hil : i < l.length
    · have k1 : decide ((i : Int) < (l.length : Int)) = true := decide_eq_true (by omega)
      by_cases hib : i < bs.length
      · have k2 : decide ((i : Int) < (bs.length : Int)) = true := decide_eq_true (by omega)
        have hP : placeE bs i = (placeN bs i : Int) := place_is bs i hib (by omega)
        have hp := place_le bs i
        repeat' (refine BR.mk (fun h => ?_) (fun h => ?_) <;> first | with_reducible exact Bool.noConfusion h | with_reducible exact Bool.noConfusion (k1.symm.trans h) | with_reducible exact Bool.noConfusion (k2.symm.trans h) | skip)
        · exact ⟨⟨by omega, by omega⟩, rfl, rfl⟩
        · rw [wrap_id (by unfold i64; omega)]; omega
        · exact (show commutes _ _ = true by kernel_rfl)
        · exact ⟨by show 0 ≤ placeE bs i; rw [hP]; omega, by show placeE bs i ≤ (i : Int); rw [hP]; omega⟩
        · exact ⟨Nat.le_of_ble_eq_true rfl, rfl, by show (0 + (placeE bs i).toNat) * 32 ≤ _; rw [hP]; omega, by show 0 + (placeE bs i).toNat ≤ _; rw [hP]; omega, fun _ h => absurd h (Nat.not_lt_zero _), fun _ _ => rfl, fun _ _ => rfl⟩
        · exact ⟨⟨by omega, by omega⟩, rfl, rfl⟩
        · exact ⟨rfl, Nat.le_of_ble_eq_true rfl, rfl, by show (0 + (placeE bs i).toNat + 1) * 32 ≤ _; rw [hP]; omega, by show 0 + (placeE bs i).toNat + 1 ≤ _; rw [hP]; omega, fun _ _ => rfl, lt_one rfl, lt_one rfl⟩
        · exact ⟨⟨by show 0 ≤ placeE bs i; rw [hP]; omega, by show placeE bs i ≤ (i : Int); rw [hP]; omega⟩, fun _ _ => rfl⟩
        · exact ⟨rfl, Nat.le_of_ble_eq_true rfl, rfl, by show (0 + (placeE bs i).toNat + 1 + (i - (placeE bs i).toNat)) * 32 ≤ _; rw [hP]; omega, by show 0 + (placeE bs i).toNat + 1 + (i - (placeE bs i).toNat) ≤ _; rw [hP]; omega, join_cells (turnF l bs i) (l.getD ((i : Int)).toNat null) _ _, fun _ _ => rfl, fun _ _ => rfl⟩
        · refine Again.fam (i + 1) hil (by show _ < _; omega) rfl rfl rfl rfl trivial ?_ trivial
          · repeat' (refine BR.mk (fun _ => ?_) (fun _ => ?_))
            any_goals first | exact trivial | exact Wv.any _ | (refine Wv.int ?_; with_reducible rfl) | (refine Wv.str ?_; with_reducible rfl) | (refine Wv.bool ?_; with_reducible rfl) | refine Wv.int ?_ | refine Wv.str ?_ | refine Wv.bool ?_ | exact Wv.same rfl
            · refine Wv.sl (by show 0 + (placeE bs i).toNat + 1 + (i - (placeE bs i).toNat) = i + 1; rw [hP]; omega) (fun q _ => ?_) trivial
              exact put_vF (turnF l bs i) (l.getD ((i : Int)).toNat null) (fun _ => AV.any) (placeN bs i) (show (placeE bs i).toNat = placeN bs i by rw [hP]; omega) (by rw [turn_len]; exact place_le bs i) q
            · rw [wrap_id (by unfold i64; omega)]; rfl
      · have k2 : decide ((i : Int) < (bs.length : Int)) = false := decide_eq_false (by omega)
        repeat' (refine BR.mk (fun h => ?_) (fun h => ?_) <;> first | with_reducible exact Bool.noConfusion h | with_reducible exact Bool.noConfusion (k1.symm.trans h) | with_reducible exact Bool.noConfusion (k2.symm.trans h) | skip)
        · exact (show commutes _ _ = true by kernel_rfl)
        · exact ⟨by omega, by omega⟩
        · exact ⟨Nat.le_of_ble_eq_true rfl, rfl, by show (0 + ((0 : Int)).toNat) * 32 ≤ _; rw [show (0 : Int) = ((0 : Nat) : Int) from rfl]; omega, by show 0 + ((0 : Int)).toNat ≤ _; rw [show (0 : Int) = ((0 : Nat) : Int) from rfl]; omega, fun _ h => absurd h (Nat.not_lt_zero _), fun _ _ => rfl, fun _ _ => rfl⟩
        · exact ⟨⟨by omega, by omega⟩, rfl, rfl⟩
        · exact ⟨rfl, Nat.le_of_ble_eq_true rfl, rfl, by show (0 + ((0 : Int)).toNat + 1) * 32 ≤ _; rw [show (0 : Int) = ((0 : Nat) : Int) from rfl]; omega, by show 0 + ((0 : Int)).toNat + 1 ≤ _; rw [show (0 : Int) = ((0 : Nat) : Int) from rfl]; omega, fun _ _ => rfl, lt_one rfl, lt_one rfl⟩
        · exact ⟨⟨by omega, by omega⟩, fun _ _ => rfl⟩
        · exact ⟨rfl, Nat.le_of_ble_eq_true rfl, rfl, by show (0 + ((0 : Int)).toNat + 1 + (i - ((0 : Int)).toNat)) * 32 ≤ _; rw [show (0 : Int) = ((0 : Nat) : Int) from rfl]; omega, by show 0 + ((0 : Int)).toNat + 1 + (i - ((0 : Int)).toNat) ≤ _; rw [show (0 : Int) = ((0 : Nat) : Int) from rfl]; omega, join_cells (turnF l bs i) (l.getD ((i : Int)).toNat null) _ _, fun _ _ => rfl, fun _ _ => rfl⟩
        · refine Again.fam (i + 1) hil (by show _ < _; omega) rfl rfl rfl rfl trivial ?_ trivial
          · repeat' (refine BR.mk (fun _ => ?_) (fun _ => ?_))
            any_goals first | exact trivial | exact Wv.any _ | (refine Wv.int ?_; with_reducible rfl) | (refine Wv.str ?_; with_reducible rfl) | (refine Wv.bool ?_; with_reducible rfl) | refine Wv.int ?_ | refine Wv.str ?_ | refine Wv.bool ?_ | exact Wv.same rfl
            · refine Wv.sl (by show 0 + ((0 : Int)).toNat + 1 + (i - ((0 : Int)).toNat) = i + 1; rw [show (0 : Int) = ((0 : Nat) : Int) from rfl]; omega) (fun q _ => ?_) trivial
              exact put_vF (turnF l bs i) (l.getD ((i : Int)).toNat null) (fun _ => AV.any) (placeN bs i) (show ((0 : Int)).toNat = placeN bs i by unfold placeN; rw [if_neg hib]; rfl) (by rw [turn_len]; exact place_le bs i) q
            · rw [wrap_id (by unfold i64; omega)]; rfl
    · have k1 : decide ((i : Int) < (l.length : Int)) = false := decide_eq_false (by omega)
      obtain rfl : i = l.length := by omega
      repeat' (refine BR.mk (fun h => ?_) (fun h => ?_) <;> first | with_reducible exact Bool.noConfusion h | with_reducible exact Bool.noConfusion (k1.symm.trans h) | skip)
      exact Fini.mk rfl
def h_bytes (n : Nat) (f : Nat → AV) : List UInt8 := (List.range n).map fun i => match f i with
  | .int _ b => UInt8.ofNat b.toNat
  | _ => 0
theorem strF_bytes {n : Nat} {f : Nat → AV} (hf : ∀ i, i < n → isByte (f i)) : ∀ i, i < n → f i = strF (h_bytes n f) i := fun i hi => by
  have h := hf i hi
  have e : (h_bytes n f).getD i 0 = (match f i with
    | .int _ b => UInt8.ofNat b.toNat
    | _ => 0) := by
    unfold h_bytes
    simp [List.getD_eq_getElem?_getD, hi]
  unfold strF
  rw [e]
  generalize f i = x at h ⊢
  cases x <;> first | exact h.elim | skip
  rename_i k b
  cases k <;> first | exact h.elim | skip
  have h : 0 ≤ b ∧ b < 256 := h
  show AV.int .u8 b = AV.int .u8 (((UInt8.ofNat b.toNat).toNat : Nat) : Int)
  rw [u8_of b h]
theorem h_bytes_len (n : Nat) (f : Nat → AV) : (h_bytes n f).length = n := by simp [h_bytes]
noncomputable def h_turned : List AV → CR
  | [.sl _ n f, .sl _ q g] => @CR.need ((∀ i, i < n → isV (f i) = true) ∧ n ≤ 1000000 ∧ (∀ i, i < q → isByte (g i)) ∧ q ≤ 9223372036854775807) (Classical.propDecidable _) (.sl .no n (vF (turnF (lO n f) (h_bytes q g) n)))
  | _ => .no
theorem h_turned_ok (xs : List AV) : CRok Tryd.prog GV 18 xs (h_turned xs) := by
  unfold h_turned
  split
  · rename_i t1 n f t2 q g
    rintro ⟨hf, hn, hg, hq⟩
    have h0 := pc_turned0 (lO n f) (h_bytes q g) (by rw [lO_len]; exact hn) (by rw [h_bytes_len]; exact hq)
    rw [lO_len, h_bytes_len] at h0
    refine pc_args ?_ h0
    intro X vs h
    cases h with | cons h1 hs => cases hs with | cons h2 hs =>
    exact .cons (rep_slice (fun i hi => lO_get hf i hi) (rep_tag h1)) (.cons (rep_slice (strF_bytes hg) (rep_tag h2)) hs)
  · trivial
noncomputable def EE3 : Env := EE2.add 18 h_turned
theorem EE3_ok : EnvOk Tryd.prog EE3 := Env.add_ok EE2_ok (by kernel_rfl) h_turned_ok

end Go.Proofs.YtbpnnilocbgdbaaDoor
