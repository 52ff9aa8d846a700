/- The package agg, tier 9: Final, Known, Reset, New. PRINTED BY A SMALL PROGRAM (gend.py). -/
import Derived.Test.YtejepcnoflahkaaGreatDoorAWalk8
namespace Go.Proofs.YtejepcnoflahkaaGreatDoor
open Go Go.Ab
set_option linter.unusedVariables false
set_option linter.unusedSimpArgs false
set_option maxRecDepth 100000
set_option maxHeartbeats 8000000

theorem wrap_lo (lo : Int) (h : u64 lo) : IntKind.i64.wrap lo = if lo < 9223372036854775808 then lo else lo - 18446744073709551616 := by
  unfold u64 at h
  rw [wrapI]; split <;> split <;> omega
theorem ov_is (hi lo : Int) (h : u64 lo) : IntKind.u64.wrap ((IntKind.i64.wrap lo).fdiv (2 ^ min (63 : Int).toNat 64)) = (if lo < 9223372036854775808 then 0 else 18446744073709551615) := by
  have := wrap_lo lo h
  unfold u64 at h
  rw [this, wrap_u64, show (2 : Int) ^ min (63 : Int).toNat 64 = 9223372036854775808 from rfl, Int.fdiv_eq_ediv_of_nonneg _ (by decide)]
  split <;> omega
noncomputable def h_joinA : List AV → St → Res
  | [.ptr i 0], m => match m.h i with
    | some (.cells [.str name, .bool d, .int .i64 n, .int .u64 hi, .int .u64 lo, .int .u8 bk, .int .i64 bn, .str bs, .sl (.tok t) ln f, .map j]) => match m.h j with
      | some (.map es) => @Res.need ([i, j].Nodup ∧ m.k t = some (ln, 34) ∧ (∀ q, q < ln → isV (f q) = true) ∧ es = encM (sO es) ∧ 0 < ln ∧ ln ≤ 1000 ∧ (∀ x ∈ lO ln f, right x = true) ∧ ∀ x ∈ lO ln f, i64 x.n) (Classical.propDecidable _) (encR (joinS (lO ln f))) (m.within (St.small (accP name d n hi lo ⟨bk, bn, bs⟩ ln f (sO es)) [(ln, 34)]) (aSt name d (accO n hi lo ⟨bk, bn, bs⟩ ln f (sO es))) [i, j] [t])
      | _ => .fail
    | _ => .fail
  | _, _ => .fail
theorem h_joinA_ok (xs : List AV) (m : St) : HRok Tryz.prog GV 61 xs m (h_joinA xs m) := by
  unfold h_joinA
  split
  · rename_i i
    split
    · rename_i name d n hi lo bk bn bs t ln f j h0
      split
      · rename_i es h1
        rintro ⟨hnd, hk, hf, hes, hc⟩
        exact hc_small (hc_join name d n hi lo ⟨bk, bn, bs⟩ ln f (sO es) hf hc.1 hc.2.1 hc.2.2.1 hc.2.2.2) [i, j] [t] (Nat.le_of_ble_eq_true rfl) (Nat.le_of_ble_eq_true rfl) rfl hnd (by simp) ⟨⟨rfl, _, h0, leB.refl _⟩, ⟨⟨under_enc1 _ _ _, under_enc2 _ _ _⟩, _, h1, fits_map hes⟩, trivial⟩ ⟨hk, trivial⟩
      · trivial
    · trivial
  · trivial
noncomputable def EB10 : Env := EB9.addH 61 h_joinA
theorem EB10_ok : EnvOk Tryz.prog EB10 := Env.addH_ok EB9_ok (by kernel_rfl) h_joinA_ok
section
variable (d : Bool) (n hi lo : Int) (b : V) (ln : Nat) (f : Nat → AV) (sn : List (List UInt8 × Int))
theorem hc_fin_count (hf : ∀ i, i < ln → isV (f i) = true) : HC Tryz.prog GV 16 [.ptr 0 0] (St.small (accP sCount d n hi lo b ln f sn) [(ln, 34)]) (encR (⟨numV n, 0⟩)) (aSt sCount d (accO n hi lo b ln f sn)) := by
  have kn : true = true := rfl
  have ko : true = true := rfl
  refine hc_of EB10_ok mixed (show Tryz.prog.funcs[16]? = some Tryz.f16 from rfl) (Nat.le_of_ble_eq_true rfl) (Nat.le_of_ble_eq_true rfl) ?_
  repeat' (refine BR.mk (fun h => ?_) (fun h => ?_) <;> first | contradiction | exact absurd h (by decide) | exact absurd (kn.symm.trans h) (by decide) | exact absurd (ko.symm.trans h) (by decide) | skip)
  · refine Go.Ab.Left.mk (Nat.le_of_ble_eq_true rfl) ⟨[], fun _ _ => rfl, Wv.same rfl, wk_accG sCount d (accO n hi lo b ln f sn) ln f (lO_len _ _) (lO_get hf) ⟨_, _, _, _, _, _, rfl, rfl, rfl, rfl, rfl, rfl, rfl⟩ rfl ⟨_, rfl, rfl⟩ (Nat.le_of_ble_eq_true rfl) rfl⟩
theorem hc_fin_star (hf : ∀ i, i < ln → isV (f i) = true) : HC Tryz.prog GV 16 [.ptr 0 0] (St.small (accP sStar d n hi lo b ln f sn) [(ln, 34)]) (encR (⟨numV n, 0⟩)) (aSt sStar d (accO n hi lo b ln f sn)) := by
  have kn : true = true := rfl
  have ko : true = true := rfl
  refine hc_of EB10_ok mixed (show Tryz.prog.funcs[16]? = some Tryz.f16 from rfl) (Nat.le_of_ble_eq_true rfl) (Nat.le_of_ble_eq_true rfl) ?_
  repeat' (refine BR.mk (fun h => ?_) (fun h => ?_) <;> first | contradiction | exact absurd h (by decide) | exact absurd (kn.symm.trans h) (by decide) | exact absurd (ko.symm.trans h) (by decide) | skip)
  · refine Go.Ab.Left.mk (Nat.le_of_ble_eq_true rfl) ⟨[], fun _ _ => rfl, Wv.same rfl, wk_accG sStar d (accO n hi lo b ln f sn) ln f (lO_len _ _) (lO_get hf) ⟨_, _, _, _, _, _, rfl, rfl, rfl, rfl, rfl, rfl, rfl⟩ rfl ⟨_, rfl, rfl⟩ (Nat.le_of_ble_eq_true rfl) rfl⟩
theorem hc_fin_min (hf : ∀ i, i < ln → isV (f i) = true) : HC Tryz.prog GV 16 [.ptr 0 0] (St.small (accP sMin d n hi lo b ln f sn) [(ln, 34)]) (encR (⟨b, 0⟩)) (aSt sMin d (accO n hi lo b ln f sn)) := by
  have kn : true = true := rfl
  have ko : true = true := rfl
  refine hc_of EB10_ok mixed (show Tryz.prog.funcs[16]? = some Tryz.f16 from rfl) (Nat.le_of_ble_eq_true rfl) (Nat.le_of_ble_eq_true rfl) ?_
  repeat' (refine BR.mk (fun h => ?_) (fun h => ?_) <;> first | contradiction | exact absurd h (by decide) | exact absurd (kn.symm.trans h) (by decide) | exact absurd (ko.symm.trans h) (by decide) | skip)
  · refine Go.Ab.Left.mk (Nat.le_of_ble_eq_true rfl) ⟨[], fun _ _ => rfl, Wv.same rfl, wk_accG sMin d (accO n hi lo b ln f sn) ln f (lO_len _ _) (lO_get hf) ⟨_, _, _, _, _, _, rfl, rfl, rfl, rfl, rfl, rfl, rfl⟩ rfl ⟨_, rfl, rfl⟩ (Nat.le_of_ble_eq_true rfl) rfl⟩
theorem hc_fin_max (hf : ∀ i, i < ln → isV (f i) = true) : HC Tryz.prog GV 16 [.ptr 0 0] (St.small (accP sMax d n hi lo b ln f sn) [(ln, 34)]) (encR (⟨b, 0⟩)) (aSt sMax d (accO n hi lo b ln f sn)) := by
  have kn : true = true := rfl
  have ko : true = true := rfl
  refine hc_of EB10_ok mixed (show Tryz.prog.funcs[16]? = some Tryz.f16 from rfl) (Nat.le_of_ble_eq_true rfl) (Nat.le_of_ble_eq_true rfl) ?_
  repeat' (refine BR.mk (fun h => ?_) (fun h => ?_) <;> first | contradiction | exact absurd h (by decide) | exact absurd (kn.symm.trans h) (by decide) | exact absurd (ko.symm.trans h) (by decide) | skip)
  · refine Go.Ab.Left.mk (Nat.le_of_ble_eq_true rfl) ⟨[], fun _ _ => rfl, Wv.same rfl, wk_accG sMax d (accO n hi lo b ln f sn) ln f (lO_len _ _) (lO_get hf) ⟨_, _, _, _, _, _, rfl, rfl, rfl, rfl, rfl, rfl, rfl⟩ rfl ⟨_, rfl, rfl⟩ (Nat.le_of_ble_eq_true rfl) rfl⟩
theorem hc_fin_total_ok (hf : ∀ i, i < ln → isV (f i) = true) (h2 : u64 lo) (ho : hi = IntKind.u64.wrap ((IntKind.i64.wrap lo).fdiv (2 ^ min (63 : Int).toNat 64))) : HC Tryz.prog GV 16 [.ptr 0 0] (St.small (accP sTotal d n hi lo b ln f sn) [(ln, 34)]) (encR (⟨numV (IntKind.i64.wrap lo), 0⟩)) (aSt sTotal d (accO n hi lo b ln f sn)) := by
  have kn : true = true := rfl
  have ko : (hi != IntKind.u64.wrap ((IntKind.i64.wrap lo).fdiv (2 ^ min (63 : Int).toNat 64))) = false := by simpa using ho
  refine hc_of EB10_ok mixed (show Tryz.prog.funcs[16]? = some Tryz.f16 from rfl) (Nat.le_of_ble_eq_true rfl) (Nat.le_of_ble_eq_true rfl) ?_
  repeat' (refine BR.mk (fun h => ?_) (fun h => ?_) <;> first | contradiction | exact absurd h (by decide) | exact absurd (kn.symm.trans h) (by decide) | exact absurd (ko.symm.trans h) (by decide) | skip)
  · exact ⟨⟨by decide, by decide⟩, by decide⟩
  · exact ⟨⟨by decide, by decide⟩, by decide⟩
  · decide
  · refine Go.Ab.Left.mk (Nat.le_of_ble_eq_true rfl) ⟨[], fun _ _ => rfl, Wv.same rfl, wk_accG sTotal d (accO n hi lo b ln f sn) ln f (lO_len _ _) (lO_get hf) ⟨_, _, _, _, _, _, rfl, rfl, rfl, rfl, rfl, rfl, rfl⟩ rfl ⟨_, rfl, rfl⟩ (Nat.le_of_ble_eq_true rfl) rfl⟩
theorem hc_fin_total_no (hf : ∀ i, i < ln → isV (f i) = true) (h2 : u64 lo) (ho : hi ≠ IntKind.u64.wrap ((IntKind.i64.wrap lo).fdiv (2 ^ min (63 : Int).toNat 64))) : HC Tryz.prog GV 16 [.ptr 0 0] (St.small (accP sTotal d n hi lo b ln f sn) [(ln, 34)]) (encR (⟨null, 20⟩)) (aSt sTotal d (accO n hi lo b ln f sn)) := by
  have kn : true = true := rfl
  have ko : (hi != IntKind.u64.wrap ((IntKind.i64.wrap lo).fdiv (2 ^ min (63 : Int).toNat 64))) = true := by simpa using ho
  refine hc_of EB10_ok mixed (show Tryz.prog.funcs[16]? = some Tryz.f16 from rfl) (Nat.le_of_ble_eq_true rfl) (Nat.le_of_ble_eq_true rfl) ?_
  repeat' (refine BR.mk (fun h => ?_) (fun h => ?_) <;> first | contradiction | exact absurd h (by decide) | exact absurd (kn.symm.trans h) (by decide) | exact absurd (ko.symm.trans h) (by decide) | skip)
  · exact ⟨⟨by decide, by decide⟩, by decide⟩
  · exact ⟨⟨by decide, by decide⟩, by decide⟩
  · decide
  · refine Go.Ab.Left.mk (Nat.le_of_ble_eq_true rfl) ⟨[], fun _ _ => rfl, Wv.same rfl, wk_accG sTotal d (accO n hi lo b ln f sn) ln f (lO_len _ _) (lO_get hf) ⟨_, _, _, _, _, _, rfl, rfl, rfl, rfl, rfl, rfl, rfl⟩ rfl ⟨_, rfl, rfl⟩ (Nat.le_of_ble_eq_true rfl) rfl⟩
theorem hc_fin_sum_ok (hf : ∀ i, i < ln → isV (f i) = true) (h2 : u64 lo) (hn : n ≠ 0) (ho : hi = IntKind.u64.wrap ((IntKind.i64.wrap lo).fdiv (2 ^ min (63 : Int).toNat 64))) : HC Tryz.prog GV 16 [.ptr 0 0] (St.small (accP sSum d n hi lo b ln f sn) [(ln, 34)]) (encR (⟨numV (IntKind.i64.wrap lo), 0⟩)) (aSt sSum d (accO n hi lo b ln f sn)) := by
  have kn : (n == 0) = false := by simpa using hn
  have ko : (hi != IntKind.u64.wrap ((IntKind.i64.wrap lo).fdiv (2 ^ min (63 : Int).toNat 64))) = false := by simpa using ho
  refine hc_of EB10_ok mixed (show Tryz.prog.funcs[16]? = some Tryz.f16 from rfl) (Nat.le_of_ble_eq_true rfl) (Nat.le_of_ble_eq_true rfl) ?_
  repeat' (refine BR.mk (fun h => ?_) (fun h => ?_) <;> first | contradiction | exact absurd h (by decide) | exact absurd (kn.symm.trans h) (by decide) | exact absurd (ko.symm.trans h) (by decide) | skip)
  · exact ⟨⟨by decide, by decide⟩, by decide⟩
  · exact ⟨⟨by decide, by decide⟩, by decide⟩
  · decide
  · refine Go.Ab.Left.mk (Nat.le_of_ble_eq_true rfl) ⟨[], fun _ _ => rfl, Wv.same rfl, wk_accG sSum d (accO n hi lo b ln f sn) ln f (lO_len _ _) (lO_get hf) ⟨_, _, _, _, _, _, rfl, rfl, rfl, rfl, rfl, rfl, rfl⟩ rfl ⟨_, rfl, rfl⟩ (Nat.le_of_ble_eq_true rfl) rfl⟩
theorem hc_fin_sum_no (hf : ∀ i, i < ln → isV (f i) = true) (h2 : u64 lo) (hn : n ≠ 0) (ho : hi ≠ IntKind.u64.wrap ((IntKind.i64.wrap lo).fdiv (2 ^ min (63 : Int).toNat 64))) : HC Tryz.prog GV 16 [.ptr 0 0] (St.small (accP sSum d n hi lo b ln f sn) [(ln, 34)]) (encR (⟨null, 20⟩)) (aSt sSum d (accO n hi lo b ln f sn)) := by
  have kn : (n == 0) = false := by simpa using hn
  have ko : (hi != IntKind.u64.wrap ((IntKind.i64.wrap lo).fdiv (2 ^ min (63 : Int).toNat 64))) = true := by simpa using ho
  refine hc_of EB10_ok mixed (show Tryz.prog.funcs[16]? = some Tryz.f16 from rfl) (Nat.le_of_ble_eq_true rfl) (Nat.le_of_ble_eq_true rfl) ?_
  repeat' (refine BR.mk (fun h => ?_) (fun h => ?_) <;> first | contradiction | exact absurd h (by decide) | exact absurd (kn.symm.trans h) (by decide) | exact absurd (ko.symm.trans h) (by decide) | skip)
  · exact ⟨⟨by decide, by decide⟩, by decide⟩
  · exact ⟨⟨by decide, by decide⟩, by decide⟩
  · decide
  · refine Go.Ab.Left.mk (Nat.le_of_ble_eq_true rfl) ⟨[], fun _ _ => rfl, Wv.same rfl, wk_accG sSum d (accO n hi lo b ln f sn) ln f (lO_len _ _) (lO_get hf) ⟨_, _, _, _, _, _, rfl, rfl, rfl, rfl, rfl, rfl, rfl⟩ rfl ⟨_, rfl, rfl⟩ (Nat.le_of_ble_eq_true rfl) rfl⟩
theorem hc_fin_sum_nil (hf : ∀ i, i < ln → isV (f i) = true) (hn : n = 0) : HC Tryz.prog GV 16 [.ptr 0 0] (St.small (accP sSum d n hi lo b ln f sn) [(ln, 34)]) (encR (⟨null, 0⟩)) (aSt sSum d (accO n hi lo b ln f sn)) := by
  have kn : (n == 0) = true := by simpa using hn
  have ko : true = true := rfl
  refine hc_of EB10_ok mixed (show Tryz.prog.funcs[16]? = some Tryz.f16 from rfl) (Nat.le_of_ble_eq_true rfl) (Nat.le_of_ble_eq_true rfl) ?_
  repeat' (refine BR.mk (fun h => ?_) (fun h => ?_) <;> first | contradiction | exact absurd h (by decide) | exact absurd (kn.symm.trans h) (by decide) | exact absurd (ko.symm.trans h) (by decide) | skip)
  · refine Go.Ab.Left.mk (Nat.le_of_ble_eq_true rfl) ⟨[], fun _ _ => rfl, Wv.same rfl, wk_accG sSum d (accO n hi lo b ln f sn) ln f (lO_len _ _) (lO_get hf) ⟨_, _, _, _, _, _, rfl, rfl, rfl, rfl, rfl, rfl, rfl⟩ rfl ⟨_, rfl, rfl⟩ (Nat.le_of_ble_eq_true rfl) rfl⟩
theorem hc_fin_concat_nil (hf : ∀ i, i < ln → isV (f i) = true) (hn : n = 0) : HC Tryz.prog GV 16 [.ptr 0 0] (St.small (accP sConcat d n hi lo b ln f sn) [(ln, 34)]) (encR (⟨null, 0⟩)) (aSt sConcat d (accO n hi lo b ln f sn)) := by
  have kn : (n == 0) = true := by simpa using hn
  have ko : true = true := rfl
  refine hc_of EB10_ok mixed (show Tryz.prog.funcs[16]? = some Tryz.f16 from rfl) (Nat.le_of_ble_eq_true rfl) (Nat.le_of_ble_eq_true rfl) ?_
  repeat' (refine BR.mk (fun h => ?_) (fun h => ?_) <;> first | contradiction | exact absurd h (by decide) | exact absurd (kn.symm.trans h) (by decide) | exact absurd (ko.symm.trans h) (by decide) | skip)
  · refine Go.Ab.Left.mk (Nat.le_of_ble_eq_true rfl) ⟨[], fun _ _ => rfl, Wv.same rfl, wk_accG sConcat d (accO n hi lo b ln f sn) ln f (lO_len _ _) (lO_get hf) ⟨_, _, _, _, _, _, rfl, rfl, rfl, rfl, rfl, rfl, rfl⟩ rfl ⟨_, rfl, rfl⟩ (Nat.le_of_ble_eq_true rfl) rfl⟩
theorem hc_fin_concat (hf : ∀ i, i < ln → isV (f i) = true) (hn : n ≠ 0) (h0 : 0 < ln) (hl : ln ≤ 1000) (hr : ∀ x ∈ lO ln f, right x = true) (hi64 : ∀ x ∈ lO ln f, i64 x.n) : HC Tryz.prog GV 16 [.ptr 0 0] (St.small (accP sConcat d n hi lo b ln f sn) [(ln, 34)]) (encR (joinS (lO ln f))) (aSt sConcat d (accO n hi lo b ln f sn)) := by
  have kn : (n == 0) = false := by simpa using hn
  have ko : true = true := rfl
  refine hc_of EB10_ok mixed (show Tryz.prog.funcs[16]? = some Tryz.f16 from rfl) (Nat.le_of_ble_eq_true rfl) (Nat.le_of_ble_eq_true rfl) ?_
  repeat' (refine BR.mk (fun h => ?_) (fun h => ?_) <;> first | contradiction | exact absurd h (by decide) | exact absurd (kn.symm.trans h) (by decide) | exact absurd (ko.symm.trans h) (by decide) | skip)
  · exact ⟨by decide, rfl, hf, by rw [sO_enc], h0, hl, hr, hi64⟩
  · refine Go.Ab.Left.mk (Nat.le_of_ble_eq_true rfl) ⟨[], fun _ _ => rfl, Wv.same rfl, wk_accG sConcat d (accO n hi lo b ln f sn) _ _ ?_ ?_ ⟨_, _, _, _, _, _, rfl, ?_, ?_, ?_, ?_, ?_, ?_⟩ rfl ⟨_, rfl, ?_⟩ (Nat.le_of_ble_eq_true rfl) rfl⟩
    all_goals first
      | rfl
      | (simp only [accO, lO_len, lO_vF, lO_lO, ren_enc, sO_enc]; done)
      | (intro i hi; simp only [accO, lO_len, lO_vF, lO_lO, ren_enc, sO_enc])
theorem hc_final (name : List UInt8) (hm : name ∈ names) (hf : ∀ i, i < ln → isV (f i) = true) (h2 : u64 lo) (hc : name = sConcat → n = 0 ∨ 0 < ln) (hl : ln ≤ 1000) (hr : ∀ x ∈ lO ln f, right x = true) (hi64 : ∀ x ∈ lO ln f, i64 x.n) :
    HC Tryz.prog GV 16 [.ptr 0 0] (St.small (accP name d n hi lo b ln f sn) [(ln, 34)]) (encR (finalS name (accO n hi lo b ln f sn))) (aSt name d (accO n hi lo b ln f sn)) := by
  have eo : overS hi lo = if hi = IntKind.u64.wrap ((IntKind.i64.wrap lo).fdiv (2 ^ min (63 : Int).toNat 64)) then ⟨numV (IntKind.i64.wrap lo), 0⟩ else ⟨null, 20⟩ := by
    unfold overS
    rw [ov_is hi lo h2, wrap_lo lo h2]
  simp only [names, List.mem_cons, List.not_mem_nil, or_false] at hm
  rcases hm with rfl | rfl | rfl | rfl | rfl | rfl | rfl
  · exact hc_fin_count d n hi lo b ln f sn hf
  · exact hc_fin_star d n hi lo b ln f sn hf
  · by_cases hn : n = 0
    · rw [show finalS sSum (accO n hi lo b ln f sn) = ⟨null, 0⟩ from by unfold finalS; rw [if_neg (by decide), if_neg (by decide), if_neg (by decide), if_pos ⟨by decide, hn⟩]]
      exact hc_fin_sum_nil d n hi lo b ln f sn hf hn
    · rw [show finalS sSum (accO n hi lo b ln f sn) = overS hi lo from by unfold finalS; rw [if_neg (by decide), if_neg (by decide), if_neg (by decide), if_neg (fun h => hn h.2), if_neg (by decide)]; rfl, eo]
      split
      · exact hc_fin_sum_ok d n hi lo b ln f sn hf h2 hn ‹_›
      · exact hc_fin_sum_no d n hi lo b ln f sn hf h2 hn ‹_›
  · rw [show finalS sTotal (accO n hi lo b ln f sn) = overS hi lo from by unfold finalS; rw [if_neg (by decide), if_neg (by decide), if_neg (by decide), if_neg (fun h => h.1 rfl), if_neg (by decide)]; rfl, eo]
    split
    · exact hc_fin_total_ok d n hi lo b ln f sn hf h2 ‹_›
    · exact hc_fin_total_no d n hi lo b ln f sn hf h2 ‹_›
  · exact hc_fin_min d n hi lo b ln f sn hf
  · exact hc_fin_max d n hi lo b ln f sn hf
  · by_cases hn : n = 0
    · rw [show finalS sConcat (accO n hi lo b ln f sn) = ⟨null, 0⟩ from by unfold finalS; rw [if_neg (by decide), if_neg (by decide), if_neg (by decide), if_pos ⟨by decide, hn⟩]]
      exact hc_fin_concat_nil d n hi lo b ln f sn hf hn
    · rw [show finalS sConcat (accO n hi lo b ln f sn) = joinS (lO ln f) from by unfold finalS; rw [if_neg (by decide), if_neg (by decide), if_neg (by decide), if_neg (fun h => hn h.2), if_pos rfl]; rfl]
      exact hc_fin_concat d n hi lo b ln f sn hf hn ((hc rfl).resolve_left hn) hl hr hi64
end
noncomputable def h_final : List AV → St → Res
  | [.ptr i 0], m => match m.h i with
    | some (.cells [.str name, .bool d, .int .i64 n, .int .u64 hi, .int .u64 lo, .int .u8 bk, .int .i64 bn, .str bs, .sl (.tok t) ln f, .map j]) => match m.h j with
      | some (.map es) => @Res.need ([i, j].Nodup ∧ m.k t = some (ln, 34) ∧ (∀ q, q < ln → isV (f q) = true) ∧ es = encM (sO es) ∧ name ∈ names ∧ u64 lo ∧ (name = sConcat → n = 0 ∨ 0 < ln) ∧ ln ≤ 1000 ∧ (∀ x ∈ lO ln f, right x = true) ∧ ∀ x ∈ lO ln f, i64 x.n) (Classical.propDecidable _) (encR (finalS name (accO n hi lo ⟨bk, bn, bs⟩ ln f (sO es)))) (m.within (St.small (accP name d n hi lo ⟨bk, bn, bs⟩ ln f (sO es)) [(ln, 34)]) (aSt name d (accO n hi lo ⟨bk, bn, bs⟩ ln f (sO es))) [i, j] [t])
      | _ => .fail
    | _ => .fail
  | _, _ => .fail
theorem h_final_ok (xs : List AV) (m : St) : HRok Tryz.prog GV 16 xs m (h_final xs m) := by
  unfold h_final
  split
  · rename_i i
    split
    · rename_i name d n hi lo bk bn bs t ln f j h0
      split
      · rename_i es h1
        rintro ⟨hnd, hk, hf, hes, hc⟩
        exact hc_small (hc_final d n hi lo ⟨bk, bn, bs⟩ ln f (sO es) name hc.1 hf hc.2.1 hc.2.2.1 hc.2.2.2.1 hc.2.2.2.2.1 hc.2.2.2.2.2) [i, j] [t] (Nat.le_of_ble_eq_true rfl) (Nat.le_of_ble_eq_true rfl) rfl hnd (by simp) ⟨⟨rfl, _, h0, leB.refl _⟩, ⟨⟨under_enc1 _ _ _, under_enc2 _ _ _⟩, _, h1, fits_map hes⟩, trivial⟩ ⟨hk, trivial⟩
      · trivial
    · trivial
  · trivial
noncomputable def EB11 : Env := EB10.addH 16 h_final
theorem EB11_ok : EnvOk Tryz.prog EB11 := Env.addH_ok EB10_ok (by kernel_rfl) h_final_ok

end Go.Proofs.YtejepcnoflahkaaGreatDoor
