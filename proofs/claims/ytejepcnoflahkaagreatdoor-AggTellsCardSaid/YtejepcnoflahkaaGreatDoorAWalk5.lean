/- The package agg, tier 5: what Step's closures do. PRINTED BY A SMALL PROGRAM (gena.py). -/
import Derived.Test.YtejepcnoflahkaaGreatDoorAM1
namespace Go.Proofs.YtejepcnoflahkaaGreatDoor
open Go Go.Ab
set_option linter.unusedVariables false
set_option linter.unusedSimpArgs false
set_option maxRecDepth 100000
set_option maxHeartbeats 8000000

theorem wrap_u64 (x : Int) : IntKind.u64.wrap x = x % 18446744073709551616 := by
  unfold IntKind.wrap; rfl
theorem fits_map {ρ θ : Nat → Nat} {es : List (AV × AV)} (h : es = encM (sO es)) : leB (.map es) (renB ρ θ (.map (encM (sO es)))) := by
  rw [show renB ρ θ (Blk.map (encM (sO es))) = .map (encM (sO es)) from congrArg Blk.map (ren_enc ρ θ _), ← h]
  exact leB.refl _
theorem join_v {ln : Nat} {f : Nat → AV} (hf : ∀ i, i < ln → isV (f i) = true) (v : V) : ∀ i, i < ln + 1 → joinF ln f (elemA true 3 [.int .u8 v.k, .int .i64 v.n, .str v.s]) i = vF (lO ln f ++ [v]) i := fun i hi => by
  by_cases h : i < ln
  · rw [joinF_lo h, lO_get hf i h]
    unfold vF
    rw [List.getD_eq_getElem?_getD, List.getD_eq_getElem?_getD, List.getElem?_append_left (by rw [lO_len]; exact h)]
  · obtain rfl : i = ln := by omega
    rw [joinF_hi (Nat.le_refl _), Nat.sub_self]
    unfold vF
    rw [List.getD_eq_getElem?_getD, List.getElem?_append_right (by rw [lO_len]; exact Nat.le_refl _), lO_len, Nat.sub_self]
    rfl

def aSt2 (name : List UInt8) (d : Bool) (a : Acc) (v : V) : St := St.mk' 0 4 1 [] [(0, .cells (accC name d a)), (1, .map (encM a.seen)), (2, .cells [.ptr 0 0]), (3, .cells [.int .u8 v.k, .int .i64 v.n, .str v.s])] [(0, a.l.length, 34)]
theorem wk_acc2 (name : List UInt8) (d : Bool) (v : V) {u : St} (a : Acc) (ln : Nat) (f' : Nat → AV) (l1 : a.l.length = ln) (l2 : ∀ i, i < ln → f' i = vF a.l i)
    (h0 : ∃ m h1 h2 k1 k2 k3, u.h 0 = some (.cells [.str name, .bool d, .int .i64 m, .int .u64 h1, .int .u64 h2, .int .u8 k1, .int .i64 k2, .str k3, .sl (.tok 0) ln f', .map 1]) ∧ m = a.n ∧ h1 = a.hi ∧ h2 = a.lo ∧ k1 = a.best.k ∧ k2 = a.best.n ∧ k3 = a.best.s)
    (hk : u.k 0 = some (ln, 34)) (h1 : ∃ es, u.h 1 = some (.map es) ∧ es = encM a.seen) (e0 : u.h 2 = some (.cells [.ptr 0 0])) (e1 : u.h 3 = some (.cells [.int .u8 v.k, .int .i64 v.n, .str v.s])) (hn : 1 ≤ u.nk) (hz : u.n = 0) : Wk [] u (aSt2 name d a v) := by
  obtain ⟨m, x1, x2, k1, k2, k3, h0, rfl, rfl, rfl, rfl, rfl, rfl⟩ := h0
  obtain ⟨es, h1, rfl⟩ := h1
  refine Wk.mk' hz rfl ?_ trivial ?_
  · rw [show min u.nk 1 = 1 from by omega]
    exact ⟨fun _ => by rw [hk, ← l1]; rfl, fun _ => trivial⟩
  · refine BR.mk (fun _ => ?_) (fun _ => BR.mk (fun _ => ?_) fun _ => BR.mk (fun _ => ?_) (fun _ => BR.mk (fun _ => ?_) (fun _ => trivial)))
    · refine ⟨Nat.le_of_ble_eq_true rfl, .inl ⟨rfl, _, h0, ?_⟩⟩
      refine .cons (.same rfl) (.cons (.same rfl) (.cons (.same rfl) (.cons (.same rfl) (.cons (.same rfl) (.cons (.same rfl) (.cons (.same rfl) (.cons (.same rfl) (.cons (Wv.sl ?_ ?_ ⟨rfl, ?_⟩) (.cons (.same ?_) .nil)))))))))
      · exact l1.symm
      · exact fun i hi => l2 i (by rw [← l1]; exact hi)
      · show 0 < min u.nk 1; omega
      · show keepV [] 4 (min u.nk 1) (.map 1) = true; rfl
    · exact ⟨Nat.le_of_ble_eq_true rfl, .inl ⟨rfl, _, h1, rfl, keep_enc1 _ _ _ _, keep_enc2 _ _ _ _⟩⟩
    · exact ⟨Nat.le_of_ble_eq_true rfl, .inl ⟨rfl, _, e0, .cons (.same rfl) .nil⟩⟩
    · exact ⟨Nat.le_of_ble_eq_true rfl, .inl ⟨rfl, _, e1, .cons (.same rfl) (.cons (.same rfl) (.cons (.same rfl) .nil))⟩⟩
def aSt3 (name : List UInt8) (d : Bool) (a : Acc) (v : V) : St := St.mk' 0 5 1 [] [(0, .cells (accC name d a)), (1, .map (encM a.seen)), (2, .cells [.ptr 0 0]), (3, .cells [.int .u8 v.k, .int .i64 v.n, .str v.s]), (4, .cells [.clo 52 [] [.ptr 2 0, .ptr 3 0]])] [(0, a.l.length, 34)]
theorem wk_acc3 (name : List UInt8) (d : Bool) (v : V) {u : St} (a : Acc) (ln : Nat) (f' : Nat → AV) (l1 : a.l.length = ln) (l2 : ∀ i, i < ln → f' i = vF a.l i)
    (h0 : ∃ m h1 h2 k1 k2 k3, u.h 0 = some (.cells [.str name, .bool d, .int .i64 m, .int .u64 h1, .int .u64 h2, .int .u8 k1, .int .i64 k2, .str k3, .sl (.tok 0) ln f', .map 1]) ∧ m = a.n ∧ h1 = a.hi ∧ h2 = a.lo ∧ k1 = a.best.k ∧ k2 = a.best.n ∧ k3 = a.best.s)
    (hk : u.k 0 = some (ln, 34)) (h1 : ∃ es, u.h 1 = some (.map es) ∧ es = encM a.seen) (e0 : u.h 2 = some (.cells [.ptr 0 0])) (e1 : u.h 3 = some (.cells [.int .u8 v.k, .int .i64 v.n, .str v.s])) (e2 : u.h 4 = some (.cells [.clo 52 [] [.ptr 2 0, .ptr 3 0]])) (hn : 1 ≤ u.nk) (hz : u.n = 0) : Wk [] u (aSt3 name d a v) := by
  obtain ⟨m, x1, x2, k1, k2, k3, h0, rfl, rfl, rfl, rfl, rfl, rfl⟩ := h0
  obtain ⟨es, h1, rfl⟩ := h1
  refine Wk.mk' hz rfl ?_ trivial ?_
  · rw [show min u.nk 1 = 1 from by omega]
    exact ⟨fun _ => by rw [hk, ← l1]; rfl, fun _ => trivial⟩
  · refine BR.mk (fun _ => ?_) (fun _ => BR.mk (fun _ => ?_) fun _ => BR.mk (fun _ => ?_) (fun _ => BR.mk (fun _ => ?_) (fun _ => BR.mk (fun _ => ?_) (fun _ => trivial))))
    · refine ⟨Nat.le_of_ble_eq_true rfl, .inl ⟨rfl, _, h0, ?_⟩⟩
      refine .cons (.same rfl) (.cons (.same rfl) (.cons (.same rfl) (.cons (.same rfl) (.cons (.same rfl) (.cons (.same rfl) (.cons (.same rfl) (.cons (.same rfl) (.cons (Wv.sl ?_ ?_ ⟨rfl, ?_⟩) (.cons (.same ?_) .nil)))))))))
      · exact l1.symm
      · exact fun i hi => l2 i (by rw [← l1]; exact hi)
      · show 0 < min u.nk 1; omega
      · show keepV [] 5 (min u.nk 1) (.map 1) = true; rfl
    · exact ⟨Nat.le_of_ble_eq_true rfl, .inl ⟨rfl, _, h1, rfl, keep_enc1 _ _ _ _, keep_enc2 _ _ _ _⟩⟩
    · exact ⟨Nat.le_of_ble_eq_true rfl, .inl ⟨rfl, _, e0, .cons (.same rfl) .nil⟩⟩
    · exact ⟨Nat.le_of_ble_eq_true rfl, .inl ⟨rfl, _, e1, .cons (.same rfl) (.cons (.same rfl) (.cons (.same rfl) .nil))⟩⟩
    · exact ⟨Nat.le_of_ble_eq_true rfl, .inl ⟨rfl, _, e2, .cons (.same rfl) .nil⟩⟩
noncomputable def h_counts : List AV → St → Res
  | [.ptr i 0, .agg [.int .u8 k, .int .i64 q, .str s]], m => match m.h i with
    | some (.cells [.str name, .bool d, .int .i64 n, .int .u64 hi, .int .u64 lo, .int .u8 bk, .int .i64 bn, .str bs, .sl (.tok t) ln f, .map j]) => match m.h j with
      | some (.map es) => @Res.need ([i, j].Nodup ∧ m.k t = some (ln, 34) ∧ (∀ q, q < ln → isV (f q) = true) ∧ es = encM (sO es) ∧ right ⟨k, q, s⟩ = true) (Classical.propDecidable _) (.bool (countsS name d (accO n hi lo ⟨bk, bn, bs⟩ ln f (sO es)) ⟨k, q, s⟩)) (m.within (St.small (accP name d n hi lo ⟨bk, bn, bs⟩ ln f (sO es)) [(ln, 34)]) (aSt name d { accO n hi lo ⟨bk, bn, bs⟩ ln f (sO es) with seen := seenS name d (accO n hi lo ⟨bk, bn, bs⟩ ln f (sO es)) ⟨k, q, s⟩ }) [i, j] [t])
      | _ => .fail
    | _ => .fail
  | _, _ => .fail
theorem h_counts_ok (xs : List AV) (m : St) : HRok Tryz.prog GV 51 xs m (h_counts xs m) := by
  unfold h_counts
  split
  · rename_i i k q s
    split
    · rename_i name d n hi lo bk bn bs t ln f j h0
      split
      · rename_i es h1
        rintro ⟨hnd, hk, hf, hes, hc⟩
        exact hc_small (hc_counts name d n hi lo ⟨bk, bn, bs⟩ ln f (sO es) hf ⟨k, q, s⟩ hc) [i, j] [t] (Nat.le_of_ble_eq_true rfl) (Nat.le_of_ble_eq_true rfl) rfl hnd (by simp) ⟨⟨rfl, _, h0, leB.refl _⟩, ⟨⟨under_enc1 _ _ _, under_enc2 _ _ _⟩, _, h1, fits_map hes⟩, trivial⟩ ⟨hk, trivial⟩
      · trivial
    · trivial
  · trivial
noncomputable def EA9_0 : Env := EA8.addH 51 h_counts
theorem EA9_0_ok : EnvOk Tryz.prog EA9_0 := Env.addH_ok EA8_ok (by kernel_rfl) h_counts_ok
def u64 (x : Int) : Prop := 0 ≤ x ∧ x < 18446744073709551616
instance (x : Int) : Decidable (u64 x) := by unfold u64; infer_instance
theorem hc_addA (name : List UInt8) (d : Bool) (n hi lo : Int) (b : V) (ln : Nat) (f : Nat → AV) (sn : List (List UInt8 × Int)) (hf : ∀ i, i < ln → isV (f i) = true) (x : Int) (hx : i64 x) (h1 : u64 hi) (h2 : u64 lo) : HC Tryz.prog GV 55 [.ptr 0 0, .int .i64 x] (St.small (accP name d n hi lo b ln f sn) [(ln, 34)]) (.tup []) (aSt name d { accO n hi lo b ln f sn with hi := hiS hi lo x, lo := loS lo x }) := by
  unfold i64 at hx
  unfold u64 at h1 h2
  have e1 : loS lo x = (lo + IntKind.u64.wrap x + 0) % 18446744073709551616 := by rw [wrap_u64]; rfl
  have e2 : IntKind.u64.wrap (x.fdiv (2 ^ min (63 : Int).toNat 64)) = if x < 0 then 18446744073709551615 else 0 := by
    rw [wrap_u64, show (2 : Int) ^ min (63 : Int).toNat 64 = 9223372036854775808 from rfl, Int.fdiv_eq_ediv_of_nonneg _ (by decide)]
    split <;> omega
  have e3 : hiS hi lo x = (hi + IntKind.u64.wrap (x.fdiv (2 ^ min (63 : Int).toNat 64)) + (lo + IntKind.u64.wrap x + 0) / 18446744073709551616) % 18446744073709551616 := by rw [e2, wrap_u64]; rfl
  refine hc_of EA9_0_ok mixed (show Tryz.prog.funcs[55]? = some Tryz.f55 from rfl) (Nat.le_of_ble_eq_true rfl) (Nat.le_of_ble_eq_true rfl) ?_
  repeat' (refine BR.mk (fun h => ?_) (fun h => ?_) <;> try contradiction)
  · exact ⟨by decide, by decide⟩
  · show (0 ≤ lo ∧ lo < 18446744073709551616) ∧ (0 ≤ IntKind.u64.wrap x ∧ IntKind.u64.wrap x < 18446744073709551616) ∧ _
    rw [wrap_u64]
    omega
  · exact ⟨by decide, by decide⟩
  · decide
  · show (0 ≤ hi ∧ hi < 18446744073709551616) ∧ (0 ≤ IntKind.u64.wrap (x.fdiv (2 ^ min (63 : Int).toNat 64)) ∧ IntKind.u64.wrap (x.fdiv (2 ^ min (63 : Int).toNat 64)) < 18446744073709551616) ∧ 0 ≤ (lo + IntKind.u64.wrap x + 0) / 18446744073709551616 ∧ (lo + IntKind.u64.wrap x + 0) / 18446744073709551616 ≤ 1
    rw [e2, wrap_u64]
    split <;> omega
  · refine Go.Ab.Left.mk (Nat.le_of_ble_eq_true rfl) ⟨[], fun _ _ => rfl, Wv.same rfl, wk_acc name d ln f hf _ rfl ⟨_, _, _, _, _, _, rfl, rfl, e3.symm, e1.symm, rfl, rfl, rfl⟩ ⟨_, rfl, rfl⟩ rfl (Nat.le_of_ble_eq_true rfl) rfl⟩
noncomputable def h_addA : List AV → St → Res
  | [.ptr i 0, .int .i64 x], m => match m.h i with
    | some (.cells [.str name, .bool d, .int .i64 n, .int .u64 hi, .int .u64 lo, .int .u8 bk, .int .i64 bn, .str bs, .sl (.tok t) ln f, .map j]) => match m.h j with
      | some (.map es) => @Res.need ([i, j].Nodup ∧ m.k t = some (ln, 34) ∧ (∀ q, q < ln → isV (f q) = true) ∧ es = encM (sO es) ∧ i64 x ∧ u64 hi ∧ u64 lo) (Classical.propDecidable _) (.tup []) (m.within (St.small (accP name d n hi lo ⟨bk, bn, bs⟩ ln f (sO es)) [(ln, 34)]) (aSt name d { accO n hi lo ⟨bk, bn, bs⟩ ln f (sO es) with hi := hiS hi lo x, lo := loS lo x }) [i, j] [t])
      | _ => .fail
    | _ => .fail
  | _, _ => .fail
theorem h_addA_ok (xs : List AV) (m : St) : HRok Tryz.prog GV 55 xs m (h_addA xs m) := by
  unfold h_addA
  split
  · rename_i i x
    split
    · rename_i name d n hi lo bk bn bs t ln f j h0
      split
      · rename_i es h1
        rintro ⟨hnd, hk, hf, hes, hc⟩
        exact hc_small (hc_addA name d n hi lo ⟨bk, bn, bs⟩ ln f (sO es) hf x hc.1 hc.2.1 hc.2.2) [i, j] [t] (Nat.le_of_ble_eq_true rfl) (Nat.le_of_ble_eq_true rfl) rfl hnd (by simp) ⟨⟨rfl, _, h0, leB.refl _⟩, ⟨⟨under_enc1 _ _ _, under_enc2 _ _ _⟩, _, h1, fits_map hes⟩, trivial⟩ ⟨hk, trivial⟩
      · trivial
    · trivial
  · trivial
noncomputable def EA9 : Env := EA9_0.addH 55 h_addA
theorem EA9_ok : EnvOk Tryz.prog EA9 := Env.addH_ok EA9_0_ok (by kernel_rfl) h_addA_ok
theorem hc_s2 (name : List UInt8) (d : Bool) (n hi lo : Int) (b : V) (ln : Nat) (f : Nat → AV) (sn : List (List UInt8 × Int)) (hf : ∀ i, i < ln → isV (f i) = true) (v : V) (hx : i64 (intV v)) (h1 : u64 hi) (h2 : u64 lo) (hs : v.s.length ≤ 9223372036854775807) : HC Tryz.prog GV 54 [.ptr 2 0, .ptr 3 0] (St.small (accP name d n hi lo b ln f sn ++ [.cells [.ptr 0 0], .cells [.int .u8 v.k, .int .i64 v.n, .str v.s]]) [(ln, 34)]) (.tup []) (aSt2 name d { accO n hi lo b ln f sn with hi := hiS hi lo (intV v), lo := loS lo (intV v) } v) := by
  refine hc_of EA9_ok mixed (show Tryz.prog.funcs[54]? = some Tryz.f54 from rfl) (Nat.le_of_ble_eq_true rfl) (Nat.le_of_ble_eq_true rfl) ?_
  repeat' (refine BR.mk (fun h => ?_) (fun h => ?_) <;> try contradiction)
  · exact (show commutes _ _ = true by kernel_rfl)
  · exact hs
  · exact ⟨by decide, rfl, hf, by rw [sO_enc], hx, h1, h2⟩
  · refine Go.Ab.Left.mk (Nat.le_of_ble_eq_true rfl) ⟨[], fun _ _ => rfl, Wv.same rfl, wk_acc2 name d v _ (lO ln f).length (vF (lO ln f)) rfl ?_ ⟨_, _, _, _, _, _, rfl, rfl, rfl, rfl, rfl, rfl, rfl⟩ rfl ⟨_, rfl, (by rw [sO_enc]; exact ren_enc _ _ _)⟩ rfl rfl (Nat.le_of_ble_eq_true rfl) rfl⟩
    exact fun i hi => rfl
theorem hc_s3 (name : List UInt8) (d : Bool) (n hi lo : Int) (b : V) (ln : Nat) (f : Nat → AV) (sn : List (List UInt8 × Int)) (hf : ∀ i, i < ln → isV (f i) = true) (v : V) (hx : i64 (intV v)) (h1 : u64 hi) (h2 : u64 lo) (hs : v.s.length ≤ 9223372036854775807) : HC Tryz.prog GV 57 [.ptr 2 0, .ptr 3 0] (St.small (accP name d n hi lo b ln f sn ++ [.cells [.ptr 0 0], .cells [.int .u8 v.k, .int .i64 v.n, .str v.s]]) [(ln, 34)]) (.tup []) (aSt2 name d { accO n hi lo b ln f sn with hi := hiS hi lo (intV v), lo := loS lo (intV v) } v) := by
  refine hc_of EA9_ok mixed (show Tryz.prog.funcs[57]? = some Tryz.f57 from rfl) (Nat.le_of_ble_eq_true rfl) (Nat.le_of_ble_eq_true rfl) ?_
  repeat' (refine BR.mk (fun h => ?_) (fun h => ?_) <;> try contradiction)
  · exact (show commutes _ _ = true by kernel_rfl)
  · exact hs
  · exact ⟨by decide, rfl, hf, by rw [sO_enc], hx, h1, h2⟩
  · refine Go.Ab.Left.mk (Nat.le_of_ble_eq_true rfl) ⟨[], fun _ _ => rfl, Wv.same rfl, wk_acc2 name d v _ (lO ln f).length (vF (lO ln f)) rfl ?_ ⟨_, _, _, _, _, _, rfl, rfl, rfl, rfl, rfl, rfl, rfl⟩ rfl ⟨_, rfl, (by rw [sO_enc]; exact ren_enc _ _ _)⟩ rfl rfl (Nat.le_of_ble_eq_true rfl) rfl⟩
    exact fun i hi => rfl
theorem hc_s6 (name : List UInt8) (d : Bool) (n hi lo : Int) (b : V) (ln : Nat) (f : Nat → AV) (sn : List (List UInt8 × Int)) (hf : ∀ i, i < ln → isV (f i) = true) (v : V) (hl : ln ≤ 1000000000) : HC Tryz.prog GV 60 [.ptr 2 0, .ptr 3 0] (St.small (accP name d n hi lo b ln f sn ++ [.cells [.ptr 0 0], .cells [.int .u8 v.k, .int .i64 v.n, .str v.s]]) [(ln, 34)]) (.tup []) (aSt2 name d { accO n hi lo b ln f sn with l := lO ln f ++ [v] } v) := by
  have h3 : ∀ i, i < ln → (f i).cells.length = 3 := fun i hi => by rw [isV_eq (hf i hi)]; rfl
  refine hc_of EA9_ok mixed (show Tryz.prog.funcs[60]? = some Tryz.f60 from rfl) (Nat.le_of_ble_eq_true rfl) (Nat.le_of_ble_eq_true rfl) ?_
  repeat' (refine BR.mk (fun h => ?_) (fun h => ?_) <;> try contradiction)
  · exact (show commutes _ _ = true by kernel_rfl)
  · exact ⟨rfl, by decide, rfl, by show (ln + 1) * 32 ≤ _; omega, by omega, h3, all1 rfl, all1 rfl⟩
  · refine Go.Ab.Left.mk (Nat.le_of_ble_eq_true rfl) ⟨[], fun _ _ => rfl, Wv.same rfl, wk_acc2 name d v _ (ln + 1) _ (by simp [lO_len]) ?_ ⟨_, _, _, _, _, _, rfl, rfl, rfl, rfl, rfl, rfl, rfl⟩ rfl ⟨_, rfl, rfl⟩ rfl rfl (Nat.le_of_ble_eq_true rfl) rfl⟩
    intro i hi
    exact join_v hf v i hi
def bestS (sg : Int) (a : Acc) (v : V) : Acc := if a.n = 0 ∨ IntKind.i64.wrap (sg * compareV v a.best) > 0 then { a with best := v } else a
theorem hc_s1 (name : List UInt8) (d : Bool) (n hi lo : Int) (b : V) (ln : Nat) (f : Nat → AV) (sn : List (List UInt8 × Int)) (hf : ∀ i, i < ln → isV (f i) = true) (v : V) (sg : Int) : HC Tryz.prog GV 52 [.int .i64 sg, .ptr 2 0, .ptr 3 0] (St.small (accP name d n hi lo b ln f sn ++ [.cells [.ptr 0 0], .cells [.int .u8 v.k, .int .i64 v.n, .str v.s]]) [(ln, 34)]) (.tup []) (aSt2 name d (bestS sg (accO n hi lo b ln f sn) v) v) := by
  have hb : ((accO n hi lo b ln f sn).n = 0 ∨ IntKind.i64.wrap (sg * compareV v (accO n hi lo b ln f sn).best) > 0) ↔ (n = 0 ∨ IntKind.i64.wrap (sg * compareV v b) > 0) := Iff.rfl
  by_cases hn : n = 0
  · have e0 : (n == 0) = true := by simpa using hn
    unfold bestS
    rw [if_pos (hb.2 (.inl hn))]
    refine hc_of EA9_ok mixed (show Tryz.prog.funcs[52]? = some Tryz.f52 from rfl) (Nat.le_of_ble_eq_true rfl) (Nat.le_of_ble_eq_true rfl) ?_
    repeat' (refine BR.mk (fun h => ?_) (fun h => ?_) <;> first | contradiction | ((try simp [e0] at h) <;> (first | (exfalso; omega) | skip)))
    · exact (show commutes _ _ = true by kernel_rfl)
    · refine Go.Ab.Left.mk (Nat.le_of_ble_eq_true rfl) ⟨[], fun _ _ => rfl, Wv.same rfl, wk_acc2 name d v _ ln f (lO_len _ _) ?_ ⟨_, _, _, _, _, _, rfl, rfl, rfl, rfl, rfl, rfl, rfl⟩ rfl ⟨_, rfl, rfl⟩ rfl rfl (Nat.le_of_ble_eq_true rfl) rfl⟩
      exact lO_get hf
  · have e0 : (n == 0) = false := by simpa using hn
    unfold bestS
    by_cases hc : IntKind.i64.wrap (sg * compareV v b) > 0
    · rw [if_pos (hb.2 (.inr hc))]
      refine hc_of EA9_ok mixed (show Tryz.prog.funcs[52]? = some Tryz.f52 from rfl) (Nat.le_of_ble_eq_true rfl) (Nat.le_of_ble_eq_true rfl) ?_
      repeat' (refine BR.mk (fun h => ?_) (fun h => ?_) <;> first | contradiction | ((try simp [e0, hc] at h) <;> (first | (exfalso; omega) | skip)))
      · exact (show commutes _ _ = true by kernel_rfl)
      · refine Go.Ab.Left.mk (Nat.le_of_ble_eq_true rfl) ⟨[], fun _ _ => rfl, Wv.same rfl, wk_acc2 name d v _ ln f (lO_len _ _) ?_ ⟨_, _, _, _, _, _, rfl, rfl, rfl, rfl, rfl, rfl, rfl⟩ rfl ⟨_, rfl, rfl⟩ rfl rfl (Nat.le_of_ble_eq_true rfl) rfl⟩
        exact lO_get hf
    · rw [if_neg (fun h => (hb.1 h).elim hn hc)]
      refine hc_of EA9_ok mixed (show Tryz.prog.funcs[52]? = some Tryz.f52 from rfl) (Nat.le_of_ble_eq_true rfl) (Nat.le_of_ble_eq_true rfl) ?_
      repeat' (refine BR.mk (fun h => ?_) (fun h => ?_) <;> first | contradiction | ((try simp [e0, hc] at h) <;> (first | (exfalso; omega) | skip)))
      · exact (show commutes _ _ = true by kernel_rfl)
      · refine Go.Ab.Left.mk (Nat.le_of_ble_eq_true rfl) ⟨[], fun _ _ => rfl, Wv.same rfl, wk_acc2 name d v _ ln f (lO_len _ _) ?_ ⟨_, _, _, _, _, _, rfl, rfl, rfl, rfl, rfl, rfl, rfl⟩ rfl ⟨_, rfl, rfl⟩ rfl rfl (Nat.le_of_ble_eq_true rfl) rfl⟩
        exact lO_get hf
noncomputable def h_s2 : List AV → St → Res
  | [.ptr x 0, .ptr y 0], m => match m.h x, m.h y with
    | some (.cells [.ptr i 0]), some (.cells [.int .u8 vk, .int .i64 vn, .str vs]) => match m.h i with
      | some (.cells [.str name, .bool d, .int .i64 n, .int .u64 hi, .int .u64 lo, .int .u8 bk, .int .i64 bn, .str bs, .sl (.tok t) ln f, .map j]) => match m.h j with
        | some (.map es) => @Res.need ([i, j, x, y].Nodup ∧ m.k t = some (ln, 34) ∧ (∀ q, q < ln → isV (f q) = true) ∧ es = encM (sO es) ∧ i64 (intV ⟨vk, vn, vs⟩) ∧ u64 hi ∧ u64 lo ∧ vs.length ≤ 9223372036854775807) (Classical.propDecidable _) (.tup []) (m.within (St.small (accP name d n hi lo ⟨bk, bn, bs⟩ ln f (sO es) ++ [.cells [.ptr 0 0], .cells [.int .u8 vk, .int .i64 vn, .str vs]]) [(ln, 34)]) (aSt2 name d { accO n hi lo ⟨bk, bn, bs⟩ ln f (sO es) with hi := hiS hi lo (intV ⟨vk, vn, vs⟩), lo := loS lo (intV ⟨vk, vn, vs⟩) } ⟨vk, vn, vs⟩) [i, j, x, y] [t])
        | _ => .fail
      | _ => .fail
    | _, _ => .fail
  | _, _ => .fail
theorem h_s2_ok (xs : List AV) (m : St) : HRok Tryz.prog GV 54 xs m (h_s2 xs m) := by
  unfold h_s2
  split
  · rename_i x y
    split
    · rename_i i vk vn vs hx hy
      split
      · rename_i name d n hi lo bk bn bs t ln f j h0
        split
        · rename_i es h1
          rintro ⟨hnd, hk, hf, hes, hc⟩
          exact hc_small (hc_s2 name d n hi lo ⟨bk, bn, bs⟩ ln f (sO es) hf ⟨vk, vn, vs⟩ hc.1 hc.2.1 hc.2.2.1 hc.2.2.2) [i, j, x, y] [t] (Nat.le_of_ble_eq_true rfl) (Nat.le_of_ble_eq_true rfl) rfl hnd (by simp) ⟨⟨rfl, _, h0, leB.refl _⟩, ⟨⟨under_enc1 _ _ _, under_enc2 _ _ _⟩, _, h1, fits_map hes⟩, ⟨rfl, _, hx, leB.refl _⟩, ⟨rfl, _, hy, leB.refl _⟩, trivial⟩ ⟨hk, trivial⟩
        · trivial
      · trivial
    · trivial
  · trivial
noncomputable def h_s3 : List AV → St → Res
  | [.ptr x 0, .ptr y 0], m => match m.h x, m.h y with
    | some (.cells [.ptr i 0]), some (.cells [.int .u8 vk, .int .i64 vn, .str vs]) => match m.h i with
      | some (.cells [.str name, .bool d, .int .i64 n, .int .u64 hi, .int .u64 lo, .int .u8 bk, .int .i64 bn, .str bs, .sl (.tok t) ln f, .map j]) => match m.h j with
        | some (.map es) => @Res.need ([i, j, x, y].Nodup ∧ m.k t = some (ln, 34) ∧ (∀ q, q < ln → isV (f q) = true) ∧ es = encM (sO es) ∧ i64 (intV ⟨vk, vn, vs⟩) ∧ u64 hi ∧ u64 lo ∧ vs.length ≤ 9223372036854775807) (Classical.propDecidable _) (.tup []) (m.within (St.small (accP name d n hi lo ⟨bk, bn, bs⟩ ln f (sO es) ++ [.cells [.ptr 0 0], .cells [.int .u8 vk, .int .i64 vn, .str vs]]) [(ln, 34)]) (aSt2 name d { accO n hi lo ⟨bk, bn, bs⟩ ln f (sO es) with hi := hiS hi lo (intV ⟨vk, vn, vs⟩), lo := loS lo (intV ⟨vk, vn, vs⟩) } ⟨vk, vn, vs⟩) [i, j, x, y] [t])
        | _ => .fail
      | _ => .fail
    | _, _ => .fail
  | _, _ => .fail
theorem h_s3_ok (xs : List AV) (m : St) : HRok Tryz.prog GV 57 xs m (h_s3 xs m) := by
  unfold h_s3
  split
  · rename_i x y
    split
    · rename_i i vk vn vs hx hy
      split
      · rename_i name d n hi lo bk bn bs t ln f j h0
        split
        · rename_i es h1
          rintro ⟨hnd, hk, hf, hes, hc⟩
          exact hc_small (hc_s3 name d n hi lo ⟨bk, bn, bs⟩ ln f (sO es) hf ⟨vk, vn, vs⟩ hc.1 hc.2.1 hc.2.2.1 hc.2.2.2) [i, j, x, y] [t] (Nat.le_of_ble_eq_true rfl) (Nat.le_of_ble_eq_true rfl) rfl hnd (by simp) ⟨⟨rfl, _, h0, leB.refl _⟩, ⟨⟨under_enc1 _ _ _, under_enc2 _ _ _⟩, _, h1, fits_map hes⟩, ⟨rfl, _, hx, leB.refl _⟩, ⟨rfl, _, hy, leB.refl _⟩, trivial⟩ ⟨hk, trivial⟩
        · trivial
      · trivial
    · trivial
  · trivial
noncomputable def h_s6 : List AV → St → Res
  | [.ptr x 0, .ptr y 0], m => match m.h x, m.h y with
    | some (.cells [.ptr i 0]), some (.cells [.int .u8 vk, .int .i64 vn, .str vs]) => match m.h i with
      | some (.cells [.str name, .bool d, .int .i64 n, .int .u64 hi, .int .u64 lo, .int .u8 bk, .int .i64 bn, .str bs, .sl (.tok t) ln f, .map j]) => match m.h j with
        | some (.map es) => @Res.need ([i, j, x, y].Nodup ∧ m.k t = some (ln, 34) ∧ (∀ q, q < ln → isV (f q) = true) ∧ es = encM (sO es) ∧ ln ≤ 1000000000) (Classical.propDecidable _) (.tup []) (m.within (St.small (accP name d n hi lo ⟨bk, bn, bs⟩ ln f (sO es) ++ [.cells [.ptr 0 0], .cells [.int .u8 vk, .int .i64 vn, .str vs]]) [(ln, 34)]) (aSt2 name d { accO n hi lo ⟨bk, bn, bs⟩ ln f (sO es) with l := lO ln f ++ [⟨vk, vn, vs⟩] } ⟨vk, vn, vs⟩) [i, j, x, y] [t])
        | _ => .fail
      | _ => .fail
    | _, _ => .fail
  | _, _ => .fail
theorem h_s6_ok (xs : List AV) (m : St) : HRok Tryz.prog GV 60 xs m (h_s6 xs m) := by
  unfold h_s6
  split
  · rename_i x y
    split
    · rename_i i vk vn vs hx hy
      split
      · rename_i name d n hi lo bk bn bs t ln f j h0
        split
        · rename_i es h1
          rintro ⟨hnd, hk, hf, hes, hc⟩
          exact hc_small (hc_s6 name d n hi lo ⟨bk, bn, bs⟩ ln f (sO es) hf ⟨vk, vn, vs⟩ hc) [i, j, x, y] [t] (Nat.le_of_ble_eq_true rfl) (Nat.le_of_ble_eq_true rfl) rfl hnd (by simp) ⟨⟨rfl, _, h0, leB.refl _⟩, ⟨⟨under_enc1 _ _ _, under_enc2 _ _ _⟩, _, h1, fits_map hes⟩, ⟨rfl, _, hx, leB.refl _⟩, ⟨rfl, _, hy, leB.refl _⟩, trivial⟩ ⟨hk, trivial⟩
        · trivial
      · trivial
    · trivial
  · trivial
noncomputable def h_s1 : List AV → St → Res
  | [.int .i64 sg, .ptr x 0, .ptr y 0], m => match m.h x, m.h y with
    | some (.cells [.ptr i 0]), some (.cells [.int .u8 vk, .int .i64 vn, .str vs]) => match m.h i with
      | some (.cells [.str name, .bool d, .int .i64 n, .int .u64 hi, .int .u64 lo, .int .u8 bk, .int .i64 bn, .str bs, .sl (.tok t) ln f, .map j]) => match m.h j with
        | some (.map es) => @Res.need ([i, j, x, y].Nodup ∧ m.k t = some (ln, 34) ∧ (∀ q, q < ln → isV (f q) = true) ∧ es = encM (sO es) ∧ True) (Classical.propDecidable _) (.tup []) (m.within (St.small (accP name d n hi lo ⟨bk, bn, bs⟩ ln f (sO es) ++ [.cells [.ptr 0 0], .cells [.int .u8 vk, .int .i64 vn, .str vs]]) [(ln, 34)]) (aSt2 name d (bestS sg (accO n hi lo ⟨bk, bn, bs⟩ ln f (sO es)) ⟨vk, vn, vs⟩) ⟨vk, vn, vs⟩) [i, j, x, y] [t])
        | _ => .fail
      | _ => .fail
    | _, _ => .fail
  | _, _ => .fail
theorem h_s1_ok (xs : List AV) (m : St) : HRok Tryz.prog GV 52 xs m (h_s1 xs m) := by
  unfold h_s1
  split
  · rename_i sg x y
    split
    · rename_i i vk vn vs hx hy
      split
      · rename_i name d n hi lo bk bn bs t ln f j h0
        split
        · rename_i es h1
          rintro ⟨hnd, hk, hf, hes, hc⟩
          exact hc_small (hc_s1 name d n hi lo ⟨bk, bn, bs⟩ ln f (sO es) hf ⟨vk, vn, vs⟩ sg) [i, j, x, y] [t] (Nat.le_of_ble_eq_true rfl) (Nat.le_of_ble_eq_true rfl) rfl hnd (by simp) ⟨⟨rfl, _, h0, leB.refl _⟩, ⟨⟨under_enc1 _ _ _, under_enc2 _ _ _⟩, _, h1, fits_map hes⟩, ⟨rfl, _, hx, leB.refl _⟩, ⟨rfl, _, hy, leB.refl _⟩, trivial⟩ ⟨hk, trivial⟩
        · trivial
      · trivial
    · trivial
  · trivial
noncomputable def EA10_0 : Env := EA9.addH 54 h_s2
theorem EA10_0_ok : EnvOk Tryz.prog EA10_0 := Env.addH_ok EA9_ok (by kernel_rfl) h_s2_ok
noncomputable def EA10_1 : Env := EA10_0.addH 57 h_s3
theorem EA10_1_ok : EnvOk Tryz.prog EA10_1 := Env.addH_ok EA10_0_ok (by kernel_rfl) h_s3_ok
noncomputable def EA10_2 : Env := EA10_1.addH 60 h_s6
theorem EA10_2_ok : EnvOk Tryz.prog EA10_2 := Env.addH_ok EA10_1_ok (by kernel_rfl) h_s6_ok
noncomputable def EA10 : Env := EA10_2.addH 52 h_s1
theorem EA10_ok : EnvOk Tryz.prog EA10 := Env.addH_ok EA10_2_ok (by kernel_rfl) h_s1_ok
theorem hc_s4 (name : List UInt8) (d : Bool) (n hi lo : Int) (b : V) (ln : Nat) (f : Nat → AV) (sn : List (List UInt8 × Int)) (hf : ∀ i, i < ln → isV (f i) = true) (v : V) : HC Tryz.prog GV 58 [.ptr 4 0] (St.small (accP name d n hi lo b ln f sn ++ [.cells [.ptr 0 0], .cells [.int .u8 v.k, .int .i64 v.n, .str v.s], .cells [.clo 52 [] [.ptr 2 0, .ptr 3 0]]]) [(ln, 34)]) (.tup []) (aSt3 name d (bestS (-1) (accO n hi lo b ln f sn) v) v) := by
  have hl : (bestS (-1) (accO n hi lo b ln f sn) v).l = lO ln f := by unfold bestS; split <;> rfl
  have hsn : (bestS (-1) (accO n hi lo b ln f sn) v).seen = sn := by unfold bestS; split <;> rfl
  refine hc_of EA10_ok mixed (show Tryz.prog.funcs[58]? = some Tryz.f58 from rfl) (Nat.le_of_ble_eq_true rfl) (Nat.le_of_ble_eq_true rfl) ?_
  repeat' (refine BR.mk (fun h => ?_) (fun h => ?_) <;> try contradiction)
  · exact ⟨by decide, rfl, hf, by rw [sO_enc], trivial⟩
  · refine Go.Ab.Left.mk (Nat.le_of_ble_eq_true rfl) ⟨[], fun _ _ => rfl, Wv.same rfl, wk_acc3 name d v _ _ _ ?_ ?_ ⟨_, _, _, _, _, _, rfl, ?_, ?_, ?_, ?_, ?_, ?_⟩ rfl ⟨_, rfl, (by rw [sO_enc]; exact ren_enc _ _ _)⟩ rfl rfl rfl (Nat.le_of_ble_eq_true rfl) rfl⟩
    · rw [sO_enc]
    · exact fun i hi => by rw [sO_enc]
    all_goals rw [sO_enc]
theorem hc_s5 (name : List UInt8) (d : Bool) (n hi lo : Int) (b : V) (ln : Nat) (f : Nat → AV) (sn : List (List UInt8 × Int)) (hf : ∀ i, i < ln → isV (f i) = true) (v : V) : HC Tryz.prog GV 59 [.ptr 4 0] (St.small (accP name d n hi lo b ln f sn ++ [.cells [.ptr 0 0], .cells [.int .u8 v.k, .int .i64 v.n, .str v.s], .cells [.clo 52 [] [.ptr 2 0, .ptr 3 0]]]) [(ln, 34)]) (.tup []) (aSt3 name d (bestS (1) (accO n hi lo b ln f sn) v) v) := by
  have hl : (bestS (1) (accO n hi lo b ln f sn) v).l = lO ln f := by unfold bestS; split <;> rfl
  have hsn : (bestS (1) (accO n hi lo b ln f sn) v).seen = sn := by unfold bestS; split <;> rfl
  refine hc_of EA10_ok mixed (show Tryz.prog.funcs[59]? = some Tryz.f59 from rfl) (Nat.le_of_ble_eq_true rfl) (Nat.le_of_ble_eq_true rfl) ?_
  repeat' (refine BR.mk (fun h => ?_) (fun h => ?_) <;> try contradiction)
  · exact ⟨by decide, rfl, hf, by rw [sO_enc], trivial⟩
  · refine Go.Ab.Left.mk (Nat.le_of_ble_eq_true rfl) ⟨[], fun _ _ => rfl, Wv.same rfl, wk_acc3 name d v _ _ _ ?_ ?_ ⟨_, _, _, _, _, _, rfl, ?_, ?_, ?_, ?_, ?_, ?_⟩ rfl ⟨_, rfl, (by rw [sO_enc]; exact ren_enc _ _ _)⟩ rfl rfl rfl (Nat.le_of_ble_eq_true rfl) rfl⟩
    · rw [sO_enc]
    · exact fun i hi => by rw [sO_enc]
    all_goals rw [sO_enc]

end Go.Proofs.YtejepcnoflahkaaGreatDoor
