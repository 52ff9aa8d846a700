/- The package agg, tier 6: Step. PRINTED BY A SMALL PROGRAM (genb.py). -/
import Derived.Test.YtejepcnoflahkaaGreatDoorAWalk5
import Derived.Test.YtejepcnoflahkaaGreatDoorACmp
namespace Go.Proofs.YtejepcnoflahkaaGreatDoor
open Go Go.Ab
set_option linter.unusedVariables false
set_option linter.unusedSimpArgs false
set_option maxRecDepth 100000
set_option maxHeartbeats 8000000

theorem wk_accG (name : List UInt8) (d : Bool) {u : St} (a : Acc) (ln : Nat) (f' : Nat → AV) (l1 : a.l.length = ln) (l2 : ∀ i, i < ln → f' i = vF a.l i)
    (h0 : ∃ m h1 h2 k1 k2 k3, u.h 0 = some (.cells [.str name, .bool d, .int .i64 m, .int .u64 h1, .int .u64 h2, .int .u8 k1, .int .i64 k2, .str k3, .sl (.tok 0) ln f', .map 1]) ∧ m = a.n ∧ h1 = a.hi ∧ h2 = a.lo ∧ k1 = a.best.k ∧ k2 = a.best.n ∧ k3 = a.best.s)
    (hk : u.k 0 = some (ln, 34)) (h1 : ∃ es, u.h 1 = some (.map es) ∧ es = encM a.seen) (hn : 1 ≤ u.nk) (hz : u.n = 0) : Wk [] u (aSt name d a) := by
  obtain ⟨m, x1, x2, k1, k2, k3, h0, rfl, rfl, rfl, rfl, rfl, rfl⟩ := h0
  obtain ⟨es, h1, rfl⟩ := h1
  refine Wk.mk' hz rfl ?_ trivial ?_
  · rw [show min u.nk 1 = 1 from by omega]
    exact ⟨fun _ => by rw [hk, ← l1]; rfl, fun _ => trivial⟩
  · refine BR.mk (fun _ => ?_) (fun _ => BR.mk (fun _ => ?_) fun _ => trivial)
    · refine ⟨Nat.le_of_ble_eq_true rfl, .inl ⟨rfl, _, h0, ?_⟩⟩
      refine .cons (.same rfl) (.cons (.same rfl) (.cons (.same rfl) (.cons (.same rfl) (.cons (.same rfl) (.cons (.same rfl) (.cons (.same rfl) (.cons (.same rfl) (.cons (Wv.sl ?_ ?_ ⟨rfl, ?_⟩) (.cons (.same ?_) .nil)))))))))
      · exact l1.symm
      · exact fun i hi => l2 i (by rw [← l1]; exact hi)
      · show 0 < min u.nk 1; omega
      · show keepV [] 2 (min u.nk 1) (.map 1) = true; rfl
    · exact ⟨Nat.le_of_ble_eq_true rfl, .inl ⟨rfl, _, h1, rfl, keep_enc1 _ _ _ _, keep_enc2 _ _ _ _⟩⟩
theorem cmp_range (a b : V) : compareV a b = -1 ∨ compareV a b = 0 ∨ compareV a b = 1 := by
  have := acv_range a b
  omega
theorem lO_lO (n : Nat) (f : Nat → AV) : lO n (vF (lO n f)) = lO n f := by
  have := lO_vF (lO n f)
  rwa [lO_len] at this
theorem right_len {v : V} (h : right v = true) : v.s.length ≤ 65536 := by
  rcases aright_cases h with ⟨_, _, h⟩ | ⟨_, h⟩ | ⟨h1, _⟩ | ⟨h1, _⟩
  · rw [h]; decide
  · rw [h]; decide
  · exact (part_right v ‹_›).2 (.inl h1)
  · exact (part_right v ‹_›).2 (.inr h1)
theorem best_f (sg : Int) (a : Acc) (v : V) : (bestS sg a v).n = a.n ∧ (bestS sg a v).hi = a.hi ∧ (bestS sg a v).lo = a.lo ∧ (bestS sg a v).l = a.l ∧ (bestS sg a v).seen = a.seen ∧ (bestS sg a v).best = if a.n = 0 ∨ IntKind.i64.wrap (sg * compareV v a.best) > 0 then v else a.best := by
  unfold bestS
  split <;> exact ⟨rfl, rfl, rfl, rfl, rfl, rfl⟩
theorem best_n (sg : Int) (a : Acc) (v : V) : (bestS sg a v).n = a.n := (best_f sg a v).1
theorem best_h (sg : Int) (a : Acc) (v : V) : (bestS sg a v).hi = a.hi := (best_f sg a v).2.1
theorem best_o (sg : Int) (a : Acc) (v : V) : (bestS sg a v).lo = a.lo := (best_f sg a v).2.2.1
theorem best_l (sg : Int) (a : Acc) (v : V) : (bestS sg a v).l = a.l := (best_f sg a v).2.2.2.1
theorem best_s (sg : Int) (a : Acc) (v : V) : (bestS sg a v).seen = a.seen := (best_f sg a v).2.2.2.2.1
theorem best_b (sg : Int) (a : Acc) (v : V) : (bestS sg a v).best = if a.n = 0 ∨ IntKind.i64.wrap (sg * compareV v a.best) > 0 then v else a.best := (best_f sg a v).2.2.2.2.2
theorem best_min (v w : V) : IntKind.i64.wrap (-1 * compareV v w) > 0 ↔ compareV v w < 0 := by
  rcases cmp_range v w with h | h | h <;> rw [h] <;> decide
theorem best_max (v w : V) : IntKind.i64.wrap (1 * compareV v w) > 0 ↔ compareV v w > 0 := by
  rcases cmp_range v w with h | h | h <;> rw [h] <;> decide

noncomputable def h_s4 : List AV → St → Res
  | [.ptr z 0], m => match m.h z with
    | some (.cells [.clo g [] [.ptr x 0, .ptr y 0]]) => match m.h x, m.h y with
      | some (.cells [.ptr i 0]), some (.cells [.int .u8 vk, .int .i64 vn, .str vs]) => match m.h i with
        | some (.cells [.str name, .bool d, .int .i64 n, .int .u64 hi, .int .u64 lo, .int .u8 bk, .int .i64 bn, .str bs, .sl (.tok t) ln f, .map j]) => match m.h j with
          | some (.map es) => @Res.need ([i, j, x, y, z].Nodup ∧ m.k t = some (ln, 34) ∧ (∀ q, q < ln → isV (f q) = true) ∧ es = encM (sO es) ∧ g = 52 ∧ True) (Classical.propDecidable _) (.tup []) (m.within (St.small (accP name d n hi lo ⟨bk, bn, bs⟩ ln f (sO es) ++ [.cells [.ptr 0 0], .cells [.int .u8 vk, .int .i64 vn, .str vs], .cells [.clo 52 [] [.ptr 2 0, .ptr 3 0]]]) [(ln, 34)]) (aSt3 name d (bestS (-1) (accO n hi lo ⟨bk, bn, bs⟩ ln f (sO es)) ⟨vk, vn, vs⟩) ⟨vk, vn, vs⟩) [i, j, x, y, z] [t])
          | _ => .fail
        | _ => .fail
      | _, _ => .fail
    | _ => .fail
  | _, _ => .fail
theorem h_s4_ok (xs : List AV) (m : St) : HRok Tryz.prog GV 58 xs m (h_s4 xs m) := by
  unfold h_s4
  split
  · rename_i z
    split
    · rename_i g x y hz
      split
      · rename_i i vk vn vs hx hy
        split
        · rename_i name d n hi lo bk bn bs t ln f j h0
          split
          · rename_i es h1
            rintro ⟨hnd, hk, hf, hes, hc⟩
            obtain ⟨rfl, hc⟩ := hc
            exact hc_small (hc_s4 name d n hi lo ⟨bk, bn, bs⟩ ln f (sO es) hf ⟨vk, vn, vs⟩) [i, j, x, y, z] [t] (Nat.le_of_ble_eq_true rfl) (Nat.le_of_ble_eq_true rfl) rfl hnd (by simp) ⟨⟨rfl, _, h0, leB.refl _⟩, ⟨⟨under_enc1 _ _ _, under_enc2 _ _ _⟩, _, h1, fits_map hes⟩, ⟨rfl, _, hx, leB.refl _⟩, ⟨rfl, _, hy, leB.refl _⟩, ⟨rfl, _, hz, leB.refl _⟩, trivial⟩ ⟨hk, trivial⟩
          · trivial
        · trivial
      · trivial
    · trivial
  · trivial
noncomputable def h_s5 : List AV → St → Res
  | [.ptr z 0], m => match m.h z with
    | some (.cells [.clo g [] [.ptr x 0, .ptr y 0]]) => match m.h x, m.h y with
      | some (.cells [.ptr i 0]), some (.cells [.int .u8 vk, .int .i64 vn, .str vs]) => match m.h i with
        | some (.cells [.str name, .bool d, .int .i64 n, .int .u64 hi, .int .u64 lo, .int .u8 bk, .int .i64 bn, .str bs, .sl (.tok t) ln f, .map j]) => match m.h j with
          | some (.map es) => @Res.need ([i, j, x, y, z].Nodup ∧ m.k t = some (ln, 34) ∧ (∀ q, q < ln → isV (f q) = true) ∧ es = encM (sO es) ∧ g = 52 ∧ True) (Classical.propDecidable _) (.tup []) (m.within (St.small (accP name d n hi lo ⟨bk, bn, bs⟩ ln f (sO es) ++ [.cells [.ptr 0 0], .cells [.int .u8 vk, .int .i64 vn, .str vs], .cells [.clo 52 [] [.ptr 2 0, .ptr 3 0]]]) [(ln, 34)]) (aSt3 name d (bestS 1 (accO n hi lo ⟨bk, bn, bs⟩ ln f (sO es)) ⟨vk, vn, vs⟩) ⟨vk, vn, vs⟩) [i, j, x, y, z] [t])
          | _ => .fail
        | _ => .fail
      | _, _ => .fail
    | _ => .fail
  | _, _ => .fail
theorem h_s5_ok (xs : List AV) (m : St) : HRok Tryz.prog GV 59 xs m (h_s5 xs m) := by
  unfold h_s5
  split
  · rename_i z
    split
    · rename_i g x y hz
      split
      · rename_i i vk vn vs hx hy
        split
        · rename_i name d n hi lo bk bn bs t ln f j h0
          split
          · rename_i es h1
            rintro ⟨hnd, hk, hf, hes, hc⟩
            obtain ⟨rfl, hc⟩ := hc
            exact hc_small (hc_s5 name d n hi lo ⟨bk, bn, bs⟩ ln f (sO es) hf ⟨vk, vn, vs⟩) [i, j, x, y, z] [t] (Nat.le_of_ble_eq_true rfl) (Nat.le_of_ble_eq_true rfl) rfl hnd (by simp) ⟨⟨rfl, _, h0, leB.refl _⟩, ⟨⟨under_enc1 _ _ _, under_enc2 _ _ _⟩, _, h1, fits_map hes⟩, ⟨rfl, _, hx, leB.refl _⟩, ⟨rfl, _, hy, leB.refl _⟩, ⟨rfl, _, hz, leB.refl _⟩, trivial⟩ ⟨hk, trivial⟩
          · trivial
        · trivial
      · trivial
    · trivial
  · trivial
noncomputable def EA11_0 : Env := EA10.addH 58 h_s4
theorem EA11_0_ok : EnvOk Tryz.prog EA11_0 := Env.addH_ok EA10_ok (by kernel_rfl) h_s4_ok
noncomputable def EA11 : Env := EA11_0.addH 59 h_s5
theorem EA11_ok : EnvOk Tryz.prog EA11 := Env.addH_ok EA11_0_ok (by kernel_rfl) h_s5_ok
theorem hc_step_sum (d : Bool) (n hi lo : Int) (b : V) (ln : Nat) (f : Nat → AV) (sn : List (List UInt8 × Int)) (hf : ∀ i, i < ln → isV (f i) = true) (v : V) (hr : right v = true) (hc : countsS sSum d (accO n hi lo b ln f sn) v = true) (h1 : u64 hi) (h2 : u64 lo) (hx : i64 (intV v)) (hl : ln ≤ 1000000000) : HC Tryz.prog GV 14 [.ptr 0 0, encV v] (St.small (accP sSum d n hi lo b ln f sn) [(ln, 34)]) (.int .i64 0) (aSt sSum d (stepS sSum d (accO n hi lo b ln f sn) v)) := by
  have k1 : (!right v) = false := by rw [hr]; rfl
  have k2 : countsS sSum d (accO n hi lo b ln f (sO (encM sn))) v = true := by rw [sO_enc]; exact hc
  have k3 : (!countsS sSum d (accO n hi lo b ln f (sO (encM sn))) v) = false := by rw [k2]; rfl
  have e : stepS sSum d (accO n hi lo b ln f sn) v = { addS sSum (accO n hi lo b ln f sn) v with n := IntKind.i64.wrap (n + 1), seen := seenS sSum d (accO n hi lo b ln f sn) v } := by
    unfold stepS
    rw [if_pos hr, if_pos hc]
    rfl
  rw [e]
  have ea : ∀ a, addS sSum a v = { a with hi := hiS a.hi a.lo (intV v), lo := loS a.lo (intV v) } := fun a => by
    unfold addS; rw [if_pos (Or.inl rfl)]
  refine hc_of EA11_ok mixed (show Tryz.prog.funcs[14]? = some Tryz.f14 from rfl) (Nat.le_of_ble_eq_true rfl) (Nat.le_of_ble_eq_true rfl) ?_
  repeat' (refine BR.mk (fun h => ?_) (fun h => ?_) <;> first | contradiction | exact absurd h (by decide) | exact absurd (k1.symm.trans h) (by decide) | exact absurd (k2.symm.trans h) (by decide) | exact absurd (k3.symm.trans h) (by decide) | skip)
  · exact ⟨by decide, rfl, hf, by rw [sO_enc], hr⟩
  · exact ⟨show [0, 1, 2, 3].Nodup by decide, rfl, fun q hq => rfl, by simp only [ren_enc, sO_enc], hx, h1, h2, Nat.le_trans (right_len hr) (by decide)⟩
  · refine Go.Ab.Left.mk (Nat.le_of_ble_eq_true rfl) ⟨[], fun _ _ => rfl, Wv.same rfl, wk_accG sSum d _ _ _ ?_ ?_ ⟨_, _, _, _, _, _, rfl, ?_, ?_, ?_, ?_, ?_, ?_⟩ rfl ⟨_, rfl, ?_⟩ (Nat.le_of_ble_eq_true rfl) rfl⟩
    all_goals first
      | rfl
      | (simp only [ea, accO, lO_len, lO_vF, lO_lO, ren_enc, sO_enc, best_n, best_h, best_o, best_l, best_s, best_b]; done)
      | (simp only [ea, accO, lO_len, lO_vF, lO_lO, ren_enc, sO_enc, best_n, best_h, best_o, best_l, best_s, best_b]; first | rfl | trivial | (split <;> rfl))
      | (intro i hi; simp only [ea, accO, lO_len, lO_vF, lO_lO, ren_enc, sO_enc, best_n, best_h, best_o, best_l, best_s, best_b])
      | (intro i hi; rfl)
theorem hc_step_total (d : Bool) (n hi lo : Int) (b : V) (ln : Nat) (f : Nat → AV) (sn : List (List UInt8 × Int)) (hf : ∀ i, i < ln → isV (f i) = true) (v : V) (hr : right v = true) (hc : countsS sTotal d (accO n hi lo b ln f sn) v = true) (h1 : u64 hi) (h2 : u64 lo) (hx : i64 (intV v)) (hl : ln ≤ 1000000000) : HC Tryz.prog GV 14 [.ptr 0 0, encV v] (St.small (accP sTotal d n hi lo b ln f sn) [(ln, 34)]) (.int .i64 0) (aSt sTotal d (stepS sTotal d (accO n hi lo b ln f sn) v)) := by
  have k1 : (!right v) = false := by rw [hr]; rfl
  have k2 : countsS sTotal d (accO n hi lo b ln f (sO (encM sn))) v = true := by rw [sO_enc]; exact hc
  have k3 : (!countsS sTotal d (accO n hi lo b ln f (sO (encM sn))) v) = false := by rw [k2]; rfl
  have e : stepS sTotal d (accO n hi lo b ln f sn) v = { addS sTotal (accO n hi lo b ln f sn) v with n := IntKind.i64.wrap (n + 1), seen := seenS sTotal d (accO n hi lo b ln f sn) v } := by
    unfold stepS
    rw [if_pos hr, if_pos hc]
    rfl
  rw [e]
  have ea : ∀ a, addS sTotal a v = { a with hi := hiS a.hi a.lo (intV v), lo := loS a.lo (intV v) } := fun a => by
    unfold addS; rw [if_pos (Or.inr rfl)]
  refine hc_of EA11_ok mixed (show Tryz.prog.funcs[14]? = some Tryz.f14 from rfl) (Nat.le_of_ble_eq_true rfl) (Nat.le_of_ble_eq_true rfl) ?_
  repeat' (refine BR.mk (fun h => ?_) (fun h => ?_) <;> first | contradiction | exact absurd h (by decide) | exact absurd (k1.symm.trans h) (by decide) | exact absurd (k2.symm.trans h) (by decide) | exact absurd (k3.symm.trans h) (by decide) | skip)
  · exact ⟨by decide, rfl, hf, by rw [sO_enc], hr⟩
  · exact ⟨show [0, 1, 2, 3].Nodup by decide, rfl, fun q hq => rfl, by simp only [ren_enc, sO_enc], hx, h1, h2, Nat.le_trans (right_len hr) (by decide)⟩
  · refine Go.Ab.Left.mk (Nat.le_of_ble_eq_true rfl) ⟨[], fun _ _ => rfl, Wv.same rfl, wk_accG sTotal d _ _ _ ?_ ?_ ⟨_, _, _, _, _, _, rfl, ?_, ?_, ?_, ?_, ?_, ?_⟩ rfl ⟨_, rfl, ?_⟩ (Nat.le_of_ble_eq_true rfl) rfl⟩
    all_goals first
      | rfl
      | (simp only [ea, accO, lO_len, lO_vF, lO_lO, ren_enc, sO_enc, best_n, best_h, best_o, best_l, best_s, best_b]; done)
      | (simp only [ea, accO, lO_len, lO_vF, lO_lO, ren_enc, sO_enc, best_n, best_h, best_o, best_l, best_s, best_b]; first | rfl | trivial | (split <;> rfl))
      | (intro i hi; simp only [ea, accO, lO_len, lO_vF, lO_lO, ren_enc, sO_enc, best_n, best_h, best_o, best_l, best_s, best_b])
      | (intro i hi; rfl)
theorem hc_step_min (d : Bool) (n hi lo : Int) (b : V) (ln : Nat) (f : Nat → AV) (sn : List (List UInt8 × Int)) (hf : ∀ i, i < ln → isV (f i) = true) (v : V) (hr : right v = true) (hc : countsS sMin d (accO n hi lo b ln f sn) v = true) (h1 : u64 hi) (h2 : u64 lo) (hx : i64 (intV v)) (hl : ln ≤ 1000000000) : HC Tryz.prog GV 14 [.ptr 0 0, encV v] (St.small (accP sMin d n hi lo b ln f sn) [(ln, 34)]) (.int .i64 0) (aSt sMin d (stepS sMin d (accO n hi lo b ln f sn) v)) := by
  have k1 : (!right v) = false := by rw [hr]; rfl
  have k2 : countsS sMin d (accO n hi lo b ln f (sO (encM sn))) v = true := by rw [sO_enc]; exact hc
  have k3 : (!countsS sMin d (accO n hi lo b ln f (sO (encM sn))) v) = false := by rw [k2]; rfl
  have e : stepS sMin d (accO n hi lo b ln f sn) v = { addS sMin (accO n hi lo b ln f sn) v with n := IntKind.i64.wrap (n + 1), seen := seenS sMin d (accO n hi lo b ln f sn) v } := by
    unfold stepS
    rw [if_pos hr, if_pos hc]
    rfl
  rw [e]
  have ea : ∀ a, addS sMin a v = bestS (-1) a v := fun a => by
    unfold addS bestS; rw [if_neg (by decide), if_pos rfl]; simp only [best_min]
  refine hc_of EA11_ok mixed (show Tryz.prog.funcs[14]? = some Tryz.f14 from rfl) (Nat.le_of_ble_eq_true rfl) (Nat.le_of_ble_eq_true rfl) ?_
  repeat' (refine BR.mk (fun h => ?_) (fun h => ?_) <;> first | contradiction | exact absurd h (by decide) | exact absurd (k1.symm.trans h) (by decide) | exact absurd (k2.symm.trans h) (by decide) | exact absurd (k3.symm.trans h) (by decide) | skip)
  · exact ⟨by decide, rfl, hf, by rw [sO_enc], hr⟩
  · exact ⟨show [0, 1, 2, 3, 4].Nodup by decide, rfl, fun q hq => rfl, by simp only [ren_enc, sO_enc], rfl, trivial⟩
  · refine Go.Ab.Left.mk (Nat.le_of_ble_eq_true rfl) ⟨[], fun _ _ => rfl, Wv.same rfl, wk_accG sMin d _ _ _ ?_ ?_ ⟨_, _, _, _, _, _, rfl, ?_, ?_, ?_, ?_, ?_, ?_⟩ rfl ⟨_, rfl, ?_⟩ (Nat.le_of_ble_eq_true rfl) rfl⟩
    all_goals first
      | rfl
      | (simp only [ea, accO, lO_len, lO_vF, lO_lO, ren_enc, sO_enc, best_n, best_h, best_o, best_l, best_s, best_b]; done)
      | (simp only [ea, accO, lO_len, lO_vF, lO_lO, ren_enc, sO_enc, best_n, best_h, best_o, best_l, best_s, best_b]; first | rfl | trivial | (split <;> rfl))
      | (intro i hi; simp only [ea, accO, lO_len, lO_vF, lO_lO, ren_enc, sO_enc, best_n, best_h, best_o, best_l, best_s, best_b])
      | (intro i hi; rfl)
theorem hc_step_max (d : Bool) (n hi lo : Int) (b : V) (ln : Nat) (f : Nat → AV) (sn : List (List UInt8 × Int)) (hf : ∀ i, i < ln → isV (f i) = true) (v : V) (hr : right v = true) (hc : countsS sMax d (accO n hi lo b ln f sn) v = true) (h1 : u64 hi) (h2 : u64 lo) (hx : i64 (intV v)) (hl : ln ≤ 1000000000) : HC Tryz.prog GV 14 [.ptr 0 0, encV v] (St.small (accP sMax d n hi lo b ln f sn) [(ln, 34)]) (.int .i64 0) (aSt sMax d (stepS sMax d (accO n hi lo b ln f sn) v)) := by
  have k1 : (!right v) = false := by rw [hr]; rfl
  have k2 : countsS sMax d (accO n hi lo b ln f (sO (encM sn))) v = true := by rw [sO_enc]; exact hc
  have k3 : (!countsS sMax d (accO n hi lo b ln f (sO (encM sn))) v) = false := by rw [k2]; rfl
  have e : stepS sMax d (accO n hi lo b ln f sn) v = { addS sMax (accO n hi lo b ln f sn) v with n := IntKind.i64.wrap (n + 1), seen := seenS sMax d (accO n hi lo b ln f sn) v } := by
    unfold stepS
    rw [if_pos hr, if_pos hc]
    rfl
  rw [e]
  have ea : ∀ a, addS sMax a v = bestS 1 a v := fun a => by
    unfold addS bestS; rw [if_neg (by decide), if_neg (by decide), if_pos rfl]; simp only [best_max]
  refine hc_of EA11_ok mixed (show Tryz.prog.funcs[14]? = some Tryz.f14 from rfl) (Nat.le_of_ble_eq_true rfl) (Nat.le_of_ble_eq_true rfl) ?_
  repeat' (refine BR.mk (fun h => ?_) (fun h => ?_) <;> first | contradiction | exact absurd h (by decide) | exact absurd (k1.symm.trans h) (by decide) | exact absurd (k2.symm.trans h) (by decide) | exact absurd (k3.symm.trans h) (by decide) | skip)
  · exact ⟨by decide, rfl, hf, by rw [sO_enc], hr⟩
  · exact ⟨show [0, 1, 2, 3, 4].Nodup by decide, rfl, fun q hq => rfl, by simp only [ren_enc, sO_enc], rfl, trivial⟩
  · refine Go.Ab.Left.mk (Nat.le_of_ble_eq_true rfl) ⟨[], fun _ _ => rfl, Wv.same rfl, wk_accG sMax d _ _ _ ?_ ?_ ⟨_, _, _, _, _, _, rfl, ?_, ?_, ?_, ?_, ?_, ?_⟩ rfl ⟨_, rfl, ?_⟩ (Nat.le_of_ble_eq_true rfl) rfl⟩
    all_goals first
      | rfl
      | (simp only [ea, accO, lO_len, lO_vF, lO_lO, ren_enc, sO_enc, best_n, best_h, best_o, best_l, best_s, best_b]; done)
      | (simp only [ea, accO, lO_len, lO_vF, lO_lO, ren_enc, sO_enc, best_n, best_h, best_o, best_l, best_s, best_b]; first | rfl | trivial | (split <;> rfl))
      | (intro i hi; simp only [ea, accO, lO_len, lO_vF, lO_lO, ren_enc, sO_enc, best_n, best_h, best_o, best_l, best_s, best_b])
      | (intro i hi; rfl)
theorem hc_step_concat (d : Bool) (n hi lo : Int) (b : V) (ln : Nat) (f : Nat → AV) (sn : List (List UInt8 × Int)) (hf : ∀ i, i < ln → isV (f i) = true) (v : V) (hr : right v = true) (hc : countsS sConcat d (accO n hi lo b ln f sn) v = true) (h1 : u64 hi) (h2 : u64 lo) (hx : i64 (intV v)) (hl : ln ≤ 1000000000) : HC Tryz.prog GV 14 [.ptr 0 0, encV v] (St.small (accP sConcat d n hi lo b ln f sn) [(ln, 34)]) (.int .i64 0) (aSt sConcat d (stepS sConcat d (accO n hi lo b ln f sn) v)) := by
  have k1 : (!right v) = false := by rw [hr]; rfl
  have k2 : countsS sConcat d (accO n hi lo b ln f (sO (encM sn))) v = true := by rw [sO_enc]; exact hc
  have k3 : (!countsS sConcat d (accO n hi lo b ln f (sO (encM sn))) v) = false := by rw [k2]; rfl
  have e : stepS sConcat d (accO n hi lo b ln f sn) v = { addS sConcat (accO n hi lo b ln f sn) v with n := IntKind.i64.wrap (n + 1), seen := seenS sConcat d (accO n hi lo b ln f sn) v } := by
    unfold stepS
    rw [if_pos hr, if_pos hc]
    rfl
  rw [e]
  have ea : ∀ a, addS sConcat a v = { a with l := a.l ++ [v] } := fun a => by
    unfold addS; rw [if_neg (by decide), if_neg (by decide), if_neg (by decide), if_pos rfl]
  refine hc_of EA11_ok mixed (show Tryz.prog.funcs[14]? = some Tryz.f14 from rfl) (Nat.le_of_ble_eq_true rfl) (Nat.le_of_ble_eq_true rfl) ?_
  repeat' (refine BR.mk (fun h => ?_) (fun h => ?_) <;> first | contradiction | exact absurd h (by decide) | exact absurd (k1.symm.trans h) (by decide) | exact absurd (k2.symm.trans h) (by decide) | exact absurd (k3.symm.trans h) (by decide) | skip)
  · exact ⟨by decide, rfl, hf, by rw [sO_enc], hr⟩
  · exact ⟨show [0, 1, 2, 3].Nodup by decide, rfl, fun q hq => rfl, by simp only [ren_enc, sO_enc], by simp only [accO, lO_len]; exact hl⟩
  · refine Go.Ab.Left.mk (Nat.le_of_ble_eq_true rfl) ⟨[], fun _ _ => rfl, Wv.same rfl, wk_accG sConcat d _ _ _ ?_ ?_ ⟨_, _, _, _, _, _, rfl, ?_, ?_, ?_, ?_, ?_, ?_⟩ rfl ⟨_, rfl, ?_⟩ (Nat.le_of_ble_eq_true rfl) rfl⟩
    all_goals first
      | rfl
      | (simp only [ea, accO, lO_len, lO_vF, lO_lO, ren_enc, sO_enc, best_n, best_h, best_o, best_l, best_s, best_b]; done)
      | (simp only [ea, accO, lO_len, lO_vF, lO_lO, ren_enc, sO_enc, best_n, best_h, best_o, best_l, best_s, best_b]; first | rfl | trivial | (split <;> rfl))
      | (intro i hi; simp only [ea, accO, lO_len, lO_vF, lO_lO, ren_enc, sO_enc, best_n, best_h, best_o, best_l, best_s, best_b])
      | (intro i hi; rfl)
theorem hc_step_count (d : Bool) (n hi lo : Int) (b : V) (ln : Nat) (f : Nat → AV) (sn : List (List UInt8 × Int)) (hf : ∀ i, i < ln → isV (f i) = true) (v : V) (hr : right v = true) (hc : countsS sCount d (accO n hi lo b ln f sn) v = true) (h1 : u64 hi) (h2 : u64 lo) (hx : i64 (intV v)) (hl : ln ≤ 1000000000) : HC Tryz.prog GV 14 [.ptr 0 0, encV v] (St.small (accP sCount d n hi lo b ln f sn) [(ln, 34)]) (.int .i64 0) (aSt sCount d (stepS sCount d (accO n hi lo b ln f sn) v)) := by
  have k1 : (!right v) = false := by rw [hr]; rfl
  have k2 : countsS sCount d (accO n hi lo b ln f (sO (encM sn))) v = true := by rw [sO_enc]; exact hc
  have k3 : (!countsS sCount d (accO n hi lo b ln f (sO (encM sn))) v) = false := by rw [k2]; rfl
  have e : stepS sCount d (accO n hi lo b ln f sn) v = { addS sCount (accO n hi lo b ln f sn) v with n := IntKind.i64.wrap (n + 1), seen := seenS sCount d (accO n hi lo b ln f sn) v } := by
    unfold stepS
    rw [if_pos hr, if_pos hc]
    rfl
  rw [e]
  have ea : ∀ a, addS sCount a v = a := fun a => by
    unfold addS; rw [if_neg (by decide), if_neg (by decide), if_neg (by decide), if_neg (by decide)]
  refine hc_of EA11_ok mixed (show Tryz.prog.funcs[14]? = some Tryz.f14 from rfl) (Nat.le_of_ble_eq_true rfl) (Nat.le_of_ble_eq_true rfl) ?_
  repeat' (refine BR.mk (fun h => ?_) (fun h => ?_) <;> first | contradiction | exact absurd h (by decide) | exact absurd (k1.symm.trans h) (by decide) | exact absurd (k2.symm.trans h) (by decide) | exact absurd (k3.symm.trans h) (by decide) | skip)
  · exact ⟨by decide, rfl, hf, by rw [sO_enc], hr⟩
  · refine Go.Ab.Left.mk (Nat.le_of_ble_eq_true rfl) ⟨[], fun _ _ => rfl, Wv.same rfl, wk_accG sCount d _ _ _ ?_ ?_ ⟨_, _, _, _, _, _, rfl, ?_, ?_, ?_, ?_, ?_, ?_⟩ rfl ⟨_, rfl, ?_⟩ (Nat.le_of_ble_eq_true rfl) rfl⟩
    all_goals first
      | rfl
      | (simp only [ea, accO, lO_len, lO_vF, lO_lO, ren_enc, sO_enc, best_n, best_h, best_o, best_l, best_s, best_b]; done)
      | (simp only [ea, accO, lO_len, lO_vF, lO_lO, ren_enc, sO_enc, best_n, best_h, best_o, best_l, best_s, best_b]; first | rfl | trivial | (split <;> rfl))
      | (intro i hi; simp only [ea, accO, lO_len, lO_vF, lO_lO, ren_enc, sO_enc, best_n, best_h, best_o, best_l, best_s, best_b])
      | (intro i hi; rfl)
theorem hc_step_star (d : Bool) (n hi lo : Int) (b : V) (ln : Nat) (f : Nat → AV) (sn : List (List UInt8 × Int)) (hf : ∀ i, i < ln → isV (f i) = true) (v : V) (hr : right v = true) (hc : countsS sStar d (accO n hi lo b ln f sn) v = true) (h1 : u64 hi) (h2 : u64 lo) (hx : i64 (intV v)) (hl : ln ≤ 1000000000) : HC Tryz.prog GV 14 [.ptr 0 0, encV v] (St.small (accP sStar d n hi lo b ln f sn) [(ln, 34)]) (.int .i64 0) (aSt sStar d (stepS sStar d (accO n hi lo b ln f sn) v)) := by
  have k1 : (!right v) = false := by rw [hr]; rfl
  have k2 : countsS sStar d (accO n hi lo b ln f (sO (encM sn))) v = true := by rw [sO_enc]; exact hc
  have k3 : (!countsS sStar d (accO n hi lo b ln f (sO (encM sn))) v) = false := by rw [k2]; rfl
  have e : stepS sStar d (accO n hi lo b ln f sn) v = { addS sStar (accO n hi lo b ln f sn) v with n := IntKind.i64.wrap (n + 1), seen := seenS sStar d (accO n hi lo b ln f sn) v } := by
    unfold stepS
    rw [if_pos hr, if_pos hc]
    rfl
  rw [e]
  have ea : ∀ a, addS sStar a v = a := fun a => by
    unfold addS; rw [if_neg (by decide), if_neg (by decide), if_neg (by decide), if_neg (by decide)]
  refine hc_of EA11_ok mixed (show Tryz.prog.funcs[14]? = some Tryz.f14 from rfl) (Nat.le_of_ble_eq_true rfl) (Nat.le_of_ble_eq_true rfl) ?_
  repeat' (refine BR.mk (fun h => ?_) (fun h => ?_) <;> first | contradiction | exact absurd h (by decide) | exact absurd (k1.symm.trans h) (by decide) | exact absurd (k2.symm.trans h) (by decide) | exact absurd (k3.symm.trans h) (by decide) | skip)
  · exact ⟨by decide, rfl, hf, by rw [sO_enc], hr⟩
  · refine Go.Ab.Left.mk (Nat.le_of_ble_eq_true rfl) ⟨[], fun _ _ => rfl, Wv.same rfl, wk_accG sStar d _ _ _ ?_ ?_ ⟨_, _, _, _, _, _, rfl, ?_, ?_, ?_, ?_, ?_, ?_⟩ rfl ⟨_, rfl, ?_⟩ (Nat.le_of_ble_eq_true rfl) rfl⟩
    all_goals first
      | rfl
      | (simp only [ea, accO, lO_len, lO_vF, lO_lO, ren_enc, sO_enc, best_n, best_h, best_o, best_l, best_s, best_b]; done)
      | (simp only [ea, accO, lO_len, lO_vF, lO_lO, ren_enc, sO_enc, best_n, best_h, best_o, best_l, best_s, best_b]; first | rfl | trivial | (split <;> rfl))
      | (intro i hi; simp only [ea, accO, lO_len, lO_vF, lO_lO, ren_enc, sO_enc, best_n, best_h, best_o, best_l, best_s, best_b])
      | (intro i hi; rfl)
theorem hc_step_wrong (name : List UInt8) (hn : name ≠ []) (d : Bool) (n hi lo : Int) (b : V) (ln : Nat) (f : Nat → AV) (sn : List (List UInt8 × Int)) (hf : ∀ i, i < ln → isV (f i) = true) (v : V) (hr : right v = false) : HC Tryz.prog GV 14 [.ptr 0 0, encV v] (St.small (accP name d n hi lo b ln f sn) [(ln, 34)]) (.int .i64 2) (aSt name d (accO n hi lo b ln f sn)) := by
  have k0 : (name == []) = false := by simpa using hn
  have k1 : (!right v) = true := by rw [hr]; rfl
  have k3 : true = true := rfl
  refine hc_of EA11_ok mixed (show Tryz.prog.funcs[14]? = some Tryz.f14 from rfl) (Nat.le_of_ble_eq_true rfl) (Nat.le_of_ble_eq_true rfl) ?_
  repeat' (refine BR.mk (fun h => ?_) (fun h => ?_) <;> first | contradiction | exact absurd h (by decide) | exact absurd (k0.symm.trans h) (by decide) | exact absurd (k1.symm.trans h) (by decide) | exact absurd (k3.symm.trans h) (by decide) | skip)
  · refine Go.Ab.Left.mk (Nat.le_of_ble_eq_true rfl) ⟨[], fun _ _ => rfl, Wv.same rfl, wk_accG name d _ _ _ ?_ ?_ ⟨_, _, _, _, _, _, rfl, ?_, ?_, ?_, ?_, ?_, ?_⟩ rfl ⟨_, rfl, ?_⟩ (Nat.le_of_ble_eq_true rfl) rfl⟩
    all_goals first
      | rfl
      | (simp only [accO, lO_len, lO_vF, lO_lO, ren_enc, sO_enc]; done)
      | (simp only [accO, lO_len, lO_vF, lO_lO, ren_enc, sO_enc]; rfl)
      | (intro i hi; exact lO_get hf i hi)
      | (intro i hi; simp only [accO, lO_len, lO_vF, lO_lO, ren_enc, sO_enc])
theorem hc_step_no (name : List UInt8) (hn : name ≠ []) (d : Bool) (n hi lo : Int) (b : V) (ln : Nat) (f : Nat → AV) (sn : List (List UInt8 × Int)) (hf : ∀ i, i < ln → isV (f i) = true) (v : V) (hr : right v = true) (hc : countsS name d (accO n hi lo b ln f sn) v = false) : HC Tryz.prog GV 14 [.ptr 0 0, encV v] (St.small (accP name d n hi lo b ln f sn) [(ln, 34)]) (.int .i64 0) (aSt name d { accO n hi lo b ln f sn with seen := seenS name d (accO n hi lo b ln f sn) v }) := by
  have k0 : (name == []) = false := by simpa using hn
  have k1 : (!right v) = false := by rw [hr]; rfl
  have k3 : (!countsS name d (accO n hi lo b ln f (sO (encM sn))) v) = true := by rw [sO_enc, hc]; rfl
  refine hc_of EA11_ok mixed (show Tryz.prog.funcs[14]? = some Tryz.f14 from rfl) (Nat.le_of_ble_eq_true rfl) (Nat.le_of_ble_eq_true rfl) ?_
  repeat' (refine BR.mk (fun h => ?_) (fun h => ?_) <;> first | contradiction | exact absurd h (by decide) | exact absurd (k0.symm.trans h) (by decide) | exact absurd (k1.symm.trans h) (by decide) | exact absurd (k3.symm.trans h) (by decide) | skip)
  · exact ⟨by decide, rfl, hf, by rw [sO_enc], hr⟩
  · refine Go.Ab.Left.mk (Nat.le_of_ble_eq_true rfl) ⟨[], fun _ _ => rfl, Wv.same rfl, wk_accG name d _ _ _ ?_ ?_ ⟨_, _, _, _, _, _, rfl, ?_, ?_, ?_, ?_, ?_, ?_⟩ rfl ⟨_, rfl, ?_⟩ (Nat.le_of_ble_eq_true rfl) rfl⟩
    all_goals first
      | rfl
      | (simp only [accO, lO_len, lO_vF, lO_lO, ren_enc, sO_enc]; done)
      | (simp only [accO, lO_len, lO_vF, lO_lO, ren_enc, sO_enc]; rfl)
      | (intro i hi; exact lO_get hf i hi)
      | (intro i hi; simp only [accO, lO_len, lO_vF, lO_lO, ren_enc, sO_enc])
theorem hc_step (name : List UInt8) (hn : name ∈ names) (d : Bool) (n hi lo : Int) (b : V) (ln : Nat) (f : Nat → AV) (sn : List (List UInt8 × Int)) (hf : ∀ i, i < ln → isV (f i) = true) (v : V) (h1 : u64 hi) (h2 : u64 lo) (hx : i64 v.n) (hl : ln ≤ 1000000000) : HC Tryz.prog GV 14 [.ptr 0 0, encV v] (St.small (accP name d n hi lo b ln f sn) [(ln, 34)]) (.int .i64 (stepE v)) (aSt name d (stepS name d (accO n hi lo b ln f sn) v)) := by
  have h0 : name ≠ [] := by
    intro e; subst e
    simp [names, sCount, sStar, sSum, sTotal, sMin, sMax, sConcat] at hn
  have hx := aintV_i64 hx
  unfold stepE
  cases hr : right v with
  | false =>
    have := hc_step_wrong name h0 d n hi lo b ln f sn hf v hr
    unfold stepS
    rw [hr]
    exact this
  | true =>
    cases hc : countsS name d (accO n hi lo b ln f sn) v with
    | false =>
      have := hc_step_no name h0 d n hi lo b ln f sn hf v hr hc
      unfold stepS
      rw [if_pos hr, hc]
      exact this
    | true =>
      simp only [names, List.mem_cons, List.not_mem_nil, or_false] at hn
      rcases hn with rfl | rfl | rfl | rfl | rfl | rfl | rfl
      · exact hc_step_count d n hi lo b ln f sn hf v hr hc h1 h2 hx hl
      · exact hc_step_star d n hi lo b ln f sn hf v hr hc h1 h2 hx hl
      · exact hc_step_sum d n hi lo b ln f sn hf v hr hc h1 h2 hx hl
      · exact hc_step_total d n hi lo b ln f sn hf v hr hc h1 h2 hx hl
      · exact hc_step_min d n hi lo b ln f sn hf v hr hc h1 h2 hx hl
      · exact hc_step_max d n hi lo b ln f sn hf v hr hc h1 h2 hx hl
      · exact hc_step_concat d n hi lo b ln f sn hf v hr hc h1 h2 hx hl
noncomputable def h_step : List AV → St → Res
  | [.ptr i 0, .agg [.int .u8 k, .int .i64 q, .str s]], m => match m.h i with
    | some (.cells [.str name, .bool d, .int .i64 n, .int .u64 hi, .int .u64 lo, .int .u8 bk, .int .i64 bn, .str bs, .sl (.tok t) ln f, .map j]) => match m.h j with
      | some (.map es) => @Res.need ([i, j].Nodup ∧ m.k t = some (ln, 34) ∧ (∀ q, q < ln → isV (f q) = true) ∧ es = encM (sO es) ∧ name ∈ names ∧ u64 hi ∧ u64 lo ∧ i64 q ∧ ln ≤ 1000000000) (Classical.propDecidable _) (.int .i64 (stepE ⟨k, q, s⟩)) (m.within (St.small (accP name d n hi lo ⟨bk, bn, bs⟩ ln f (sO es)) [(ln, 34)]) (aSt name d (stepS name d (accO n hi lo ⟨bk, bn, bs⟩ ln f (sO es)) ⟨k, q, s⟩)) [i, j] [t])
      | _ => .fail
    | _ => .fail
  | _, _ => .fail
theorem h_step_ok (xs : List AV) (m : St) : HRok Tryz.prog GV 14 xs m (h_step xs m) := by
  unfold h_step
  split
  · rename_i i k q s
    split
    · rename_i name d n hi lo bk bn bs t ln f j h0
      split
      · rename_i es h1
        rintro ⟨hnd, hk, hf, hes, hc⟩
        exact hc_small (hc_step name hc.1 d n hi lo ⟨bk, bn, bs⟩ ln f (sO es) hf ⟨k, q, s⟩ hc.2.1 hc.2.2.1 hc.2.2.2.1 hc.2.2.2.2) [i, j] [t] (Nat.le_of_ble_eq_true rfl) (Nat.le_of_ble_eq_true rfl) rfl hnd (by simp) ⟨⟨rfl, _, h0, leB.refl _⟩, ⟨⟨under_enc1 _ _ _, under_enc2 _ _ _⟩, _, h1, fits_map hes⟩, trivial⟩ ⟨hk, trivial⟩
      · trivial
    · trivial
  · trivial
noncomputable def EA12 : Env := EA11.addH 14 h_step
theorem EA12_ok : EnvOk Tryz.prog EA12 := Env.addH_ok EA11_ok (by kernel_rfl) h_step_ok

end Go.Proofs.YtejepcnoflahkaaGreatDoor
