/- slices.symMergeCmpFunc upon values: the walk. slices.symMergeCmpFunc upon values: what is asked of a call. slices.symMergeCmpFunc upon values: the general walk, the cut in the right part. slices.symMergeCmpFunc upon values: the general walk, the cut in the left part. slices.symMergeCmpFunc upon values: the walk where the right part is one value. slices.symMergeCmpFunc upon values: whatever is merged. slices.SortStableFunc of values, slices.SortedStableFunc upon slices.Values: the walk. -/
import Derived.Test.YtejepcnoflahkaaGreatDoorAM2
namespace Go.Proofs.YtejepcnoflahkaaGreatDoor
open Go Go.Ab
set_option linter.unusedVariables false
set_option linter.unusedSimpArgs false
set_option maxRecDepth 100000
set_option maxHeartbeats 8000000

theorem mid_is (i j : Nat) (h : i + j ≤ 4000000000) : IntKind.i64.wrap ((IntKind.u64.wrap (IntKind.i64.wrap ((i : Int) + (j : Int)))).fdiv (2 ^ (min (1 : Int).toNat IntKind.u64.bits))) = (((i + j) / 2 : Nat) : Int) := by
  rw [wrap_id (n := (i : Int) + j) (by unfold i64; omega), show min (1 : Int).toNat IntKind.u64.bits = 1 from rfl]
  have e : IntKind.u64.wrap ((i : Int) + j) = ((i + j : Nat) : Int) := by
    simp only [IntKind.wrap, IntKind.signed, IntKind.bits]
    simp
    omega
  rw [e, show ((2 : Int) ^ 1) = 2 from rfl, Int.fdiv_eq_ediv_of_nonneg _ (by decide), wrap_id (by unfold i64; omega)]
  omega
/-- kept out of omega's sight -/
structure Hid (p : Prop) : Prop where
  out : p
@[reducible] def midA (i j : Nat) : Int := IntKind.i64.wrap ((IntKind.u64.wrap (IntKind.i64.wrap ((i : Int) + (j : Int)))).fdiv (2 ^ (min (1 : Int).toNat IntKind.u64.bits)))
theorem midA_is (i j : Nat) (h : i + j ≤ 4000000000) : midA i j = (((i + j) / 2 : Nat) : Int) := mid_is i j h
theorem i64_nat {x : Int} {k : Nat} (h : x = k) (hk : k ≤ 4000000000) : IntKind.i64.wrap x = (k : Int) := by
  rw [h, wrap_id (by unfold i64; omega)]
theorem toNat0 (k : Nat) : 0 + ((k : Int)).toNat = k := by omega
set_option smartUnfolding false in
theorem hc_sym_a (n : Nat) (f : Nat → AV) (a b : Nat) (h1 : a + 1 < b) (h2 : b ≤ n) (hn : n ≤ 1000000000) (hf : ∀ i, i < n → isV (f i) = true) (hr : ∀ q, q < n → right (gO n f q) = true) (hs : SS (gO n f) (a + 1) b) :
    HC Tryz.prog GV 217 [.hs 0 0 n 3 none, .int .i64 a, .int .i64 ((a + 1 : Nat) : Int), .int .i64 b, .clo 53 [] []] (St.small [.arr 34 3 n f] []) (.tup []) (rowG n (srtG (gO n f) a b)) := by
  generalize hg : gO n f = g at hr hs ⊢
  have k0 : (IntKind.i64.wrap (((a + 1 : Nat) : Int) - (a : Int)) == 1) = true := by rw [wrap_id (by unfold i64; omega)]; simp; omega
  refine hc_of ES2_ok mixed (show Tryz.prog.funcs[217]? = some Tryz.f217 from rfl) (Nat.le_of_ble_eq_true rfl) (Nat.le_of_ble_eq_true rfl) ?_
  repeat' (refine BR.mk (fun h => ?_) (fun h => ?_) <;> first | with_reducible exact Bool.noConfusion h | with_reducible exact Bool.noConfusion (k0.symm.trans h) | skip)
  refine loop_fam ES2_ok mixed (σ := Nat × Nat) (fun p => a + 1 ≤ p.1 ∧ p.1 ≤ p.2 ∧ p.2 ≤ b ∧ (a + 1 < p.1 → compareV (g (p.1 - 1)) (g a) < 0) ∧ (p.2 < b → ¬ compareV (g p.2) (g a) < 0)) (fun p => p.2 - p.1) (a + 1, b) ⟨Nat.le_refl _, Nat.le_of_lt h1, Nat.le_refl _, fun h => absurd h (Nat.lt_irrefl _), fun h => absurd h (Nat.lt_irrefl _)⟩ 1 0 [0, 1, 2, 3, 4]
    (fun p => [(10, .int .i64 p.1), (11, .int .i64 p.2)]) [] (fun _ => [(0, .arr 34 3 n (vG g))]) (fun _ => []) ?_ ?_ ?_ ?_
  · rfl
  · rfl
  · refine Wk.mk' rfl rfl trivial ?_ ?_
    repeat' (refine BR.mk (fun _ => ?_) (fun _ => ?_))
    any_goals first | exact trivial | exact Wv.any _ | (refine Wv.int ?_; with_reducible rfl) | (refine Wv.str ?_; with_reducible rfl) | (refine Wv.bool ?_; with_reducible rfl) | refine Wv.int ?_ | refine Wv.str ?_ | refine Wv.bool ?_ | exact Wv.same rfl
    · refine ⟨Nat.le_of_ble_eq_true rfl, .inl ⟨rfl, _, rfl, arr_same (fun j hj => ?_) fun j _ => rfl⟩⟩
      rw [vG_gO hj (hf j hj), hg]
  · rintro ⟨i, j⟩ ⟨hi1, hi2, hi3, hi4, hi5⟩
    simp only at hi1 hi2 hi3 hi4 hi5
    have wm := Hid.mk (midA_is i j (by omega))
    by_cases hij : i < j
    · have k1 : decide (((i : Nat) : Int) < (j : Int)) = true := decide_eq_true (by omega)
      have wx : Hid (0 + (midA i j).toNat = (i + j) / 2) := ⟨by rw [wm.out]; exact toNat0 _⟩
      by_cases hc : compareV (g ((i + j) / 2)) (g a) < 0
      · have k2 : decide (compareV (g (0 + (midA i j).toNat)) (g (0 + ((a : Int)).toNat)) < 0) = true := by rw [wx.out, toNat0]; exact decide_eq_true hc
        repeat' (refine BR.mk (fun h => ?_) (fun h => ?_) <;> first | with_reducible exact Bool.noConfusion h | with_reducible exact Bool.noConfusion (k1.symm.trans h) | with_reducible exact Bool.noConfusion (k2.symm.trans h) | skip)
        · exact (show (0 : Int) ≤ 1 by decide)
        · exact (show commutes _ _ = true by kernel_rfl)
        · exact ⟨⟨by show 0 ≤ midA i j; rw [wm.out]; omega, by show midA i j < (n : Int); rw [wm.out]; omega⟩, rfl⟩
        · exact ⟨by show 0 + (midA i j).toNat < n; rw [wx.out]; omega, rfl⟩
        · exact ⟨⟨by omega, by omega⟩, rfl⟩
        · exact ⟨by omega, rfl⟩
        refine Again.fam ((i + j) / 2 + 1, j) ⟨by show a + 1 ≤ _; omega, by show (i + j) / 2 + 1 ≤ j; omega, hi3, fun _ => by show compareV (g ((i + j) / 2 + 1 - 1)) (g a) < 0; rw [Nat.add_sub_cancel]; exact hc, hi5⟩ (by show j - ((i + j) / 2 + 1) < j - i; omega) rfl rfl rfl rfl trivial ?_ ?_
        · repeat' (refine BR.mk (fun _ => ?_) (fun _ => ?_))
          any_goals first | exact trivial | exact Wv.any _ | (refine Wv.int ?_; with_reducible rfl) | (refine Wv.str ?_; with_reducible rfl) | (refine Wv.bool ?_; with_reducible rfl) | refine Wv.int ?_ | refine Wv.str ?_ | refine Wv.bool ?_ | exact Wv.same rfl
          exact i64_nat (by show midA i j + 1 = _; rw [wm.out]; rfl) (by show (i + j) / 2 + 1 ≤ _; omega)
        · repeat' (refine BR.mk (fun _ => ?_) (fun _ => ?_))
          any_goals first | exact trivial | exact Wv.any _ | (refine Wv.int ?_; with_reducible rfl) | (refine Wv.str ?_; with_reducible rfl) | (refine Wv.bool ?_; with_reducible rfl) | refine Wv.int ?_ | refine Wv.str ?_ | refine Wv.bool ?_ | exact Wv.same rfl
          exact ⟨Nat.le_of_ble_eq_true rfl, .inl ⟨rfl, _, rfl, arr_same (fun j hj => rfl) fun j _ => rfl⟩⟩
      · have k2 : decide (compareV (g (0 + (midA i j).toNat)) (g (0 + ((a : Int)).toNat)) < 0) = false := by rw [wx.out, toNat0]; exact decide_eq_false hc
        repeat' (refine BR.mk (fun h => ?_) (fun h => ?_) <;> first | with_reducible exact Bool.noConfusion h | with_reducible exact Bool.noConfusion (k1.symm.trans h) | with_reducible exact Bool.noConfusion (k2.symm.trans h) | skip)
        · exact (show (0 : Int) ≤ 1 by decide)
        · exact (show commutes _ _ = true by kernel_rfl)
        · exact ⟨⟨by show 0 ≤ midA i j; rw [wm.out]; omega, by show midA i j < (n : Int); rw [wm.out]; omega⟩, rfl⟩
        · exact ⟨by show 0 + (midA i j).toNat < n; rw [wx.out]; omega, rfl⟩
        · exact ⟨⟨by omega, by omega⟩, rfl⟩
        · exact ⟨by omega, rfl⟩
        refine Again.fam (i, (i + j) / 2) ⟨hi1, by show i ≤ (i + j) / 2; omega, by show (i + j) / 2 ≤ b; omega, hi4, fun _ => hc⟩ (by show (i + j) / 2 - i < j - i; omega) rfl rfl rfl rfl trivial ?_ ?_
        · repeat' (refine BR.mk (fun _ => ?_) (fun _ => ?_))
          any_goals first | exact trivial | exact Wv.any _ | (refine Wv.int ?_; with_reducible rfl) | (refine Wv.str ?_; with_reducible rfl) | (refine Wv.bool ?_; with_reducible rfl) | refine Wv.int ?_ | refine Wv.str ?_ | refine Wv.bool ?_ | exact Wv.same rfl
          exact wm.out
        · repeat' (refine BR.mk (fun _ => ?_) (fun _ => ?_))
          any_goals first | exact trivial | exact Wv.any _ | (refine Wv.int ?_; with_reducible rfl) | (refine Wv.str ?_; with_reducible rfl) | (refine Wv.bool ?_; with_reducible rfl) | refine Wv.int ?_ | refine Wv.str ?_ | refine Wv.bool ?_ | exact Wv.same rfl
          exact ⟨Nat.le_of_ble_eq_true rfl, .inl ⟨rfl, _, rfl, arr_same (fun j hj => rfl) fun j _ => rfl⟩⟩
    · have k1 : decide (((i : Nat) : Int) < (j : Int)) = false := decide_eq_false (by omega)
      obtain rfl : i = j := by omega
      repeat' (refine BR.mk (fun h => ?_) (fun h => ?_) <;> first | with_reducible exact Bool.noConfusion h | with_reducible exact Bool.noConfusion (k1.symm.trans h) | skip)
      refine loop_fam ES2_ok mixed (σ := Nat) (fun k => a ≤ k ∧ k + 1 ≤ i) (fun k => i - k) a ⟨Nat.le_refl _, hi1⟩ 1 0 [0, 1, 2, 3, 4, 10] (fun k => [(13, .int .i64 k)]) [] (fun k => [(0, .arr 34 3 n (vG (rotG g a (a + 1) (k + 1))))]) (fun _ => []) ?_ ?_ ?_ ?_
      · rfl
      · rfl
      · refine Wk.mk' rfl rfl trivial ?_ ?_
        repeat' (refine BR.mk (fun _ => ?_) (fun _ => ?_))
        any_goals first | exact trivial | exact Wv.any _ | (refine Wv.int ?_; with_reducible rfl) | (refine Wv.str ?_; with_reducible rfl) | (refine Wv.bool ?_; with_reducible rfl) | refine Wv.int ?_ | refine Wv.str ?_ | refine Wv.bool ?_ | exact Wv.same rfl
        · refine ⟨Nat.le_of_ble_eq_true rfl, .inl ⟨rfl, _, rfl, arr_same (fun q hq => ?_) fun j _ => rfl⟩⟩
          exact (congrArg encV (rotG_none' g a (a + 1) (by omega) q)).symm
      · rintro k ⟨hk1, hk2⟩
        have u0 : IntKind.i64.wrap ((i : Int) - 1) = ((i - 1 : Nat) : Int) := i64_nat (by omega) (by omega)
        have u1 : IntKind.i64.wrap ((k : Int) + 1) = ((k + 1 : Nat) : Int) := i64_nat (by omega) (by omega)
        by_cases hki : k + 1 < i
        · have k2 : decide (((k : Nat) : Int) < IntKind.i64.wrap ((i : Int) - 1)) = true := by rw [u0]; exact decide_eq_true (by omega)
          repeat' (refine BR.mk (fun h => ?_) (fun h => ?_) <;> first | with_reducible exact Bool.noConfusion h | with_reducible exact Bool.noConfusion (k2.symm.trans h) | skip)
          all_goals try exact (show commutes _ _ = true by kernel_rfl)
          all_goals try ((try dsimp only); (first | rw [u1] | skip); first | exact ⟨⟨by omega, by omega⟩, rfl⟩ | exact ⟨by omega, rfl⟩)
          refine Again.fam (k + 1) ⟨by show a ≤ k + 1; omega, by show k + 1 + 1 ≤ i; omega⟩ (by show i - (k + 1) < i - k; omega) rfl rfl rfl rfl trivial ?_ ?_
          · repeat' (refine BR.mk (fun _ => ?_) (fun _ => ?_))
            any_goals first | exact trivial | exact Wv.any _ | (refine Wv.int ?_; with_reducible rfl) | (refine Wv.str ?_; with_reducible rfl) | (refine Wv.bool ?_; with_reducible rfl) | refine Wv.int ?_ | refine Wv.str ?_ | refine Wv.bool ?_ | exact Wv.same rfl
            exact u1
          · repeat' (refine BR.mk (fun _ => ?_) (fun _ => ?_))
            any_goals first | exact trivial | exact Wv.any _ | (refine Wv.int ?_; with_reducible rfl) | (refine Wv.str ?_; with_reducible rfl) | (refine Wv.bool ?_; with_reducible rfl) | refine Wv.int ?_ | refine Wv.str ?_ | refine Wv.bool ?_ | exact Wv.same rfl
            refine ⟨Nat.le_of_ble_eq_true rfl, .inl ⟨rfl, _, rfl, arr_same (fun q hq => ?_) fun _ _ => rfl⟩⟩
            refine Eq.trans ?_ ((upd_swG (rotG g a (a + 1) (k + 1)) k (k + 1) q).trans (congrArg encV (rot_up g a k hk1 q)))
            show upd (upd (vG (rotG g a (a + 1) (k + 1))) (0 + ((k : Int)).toNat) (encV (rotG g a (a + 1) (k + 1) (0 + (IntKind.i64.wrap ((k : Int) + 1)).toNat)))) (0 + (IntKind.i64.wrap ((k : Int) + 1)).toNat) (encV (rotG g a (a + 1) (k + 1) (0 + ((k : Int)).toNat))) q = _
            rw [u1, toNat0, toNat0]
        · have k2 : decide (((k : Nat) : Int) < IntKind.i64.wrap ((i : Int) - 1)) = false := by rw [u0]; exact decide_eq_false (by omega)
          obtain rfl : i = k + 1 := by omega
          repeat' (refine BR.mk (fun h => ?_) (fun h => ?_) <;> first | with_reducible exact Bool.noConfusion h | with_reducible exact Bool.noConfusion (k2.symm.trans h) | skip)
          refine Go.Ab.Left.mk (Nat.le_of_ble_eq_true rfl) ⟨[], fun _ _ => rfl, Wv.same rfl, Wk.mk' rfl rfl trivial trivial ?_⟩
          repeat' (refine BR.mk (fun _ => ?_) (fun _ => ?_))
          any_goals first | exact trivial | exact Wv.any _ | (refine Wv.int ?_; with_reducible rfl) | (refine Wv.str ?_; with_reducible rfl) | (refine Wv.bool ?_; with_reducible rfl) | refine Wv.int ?_ | refine Wv.str ?_ | refine Wv.bool ?_ | exact Wv.same rfl
          refine ⟨Nat.le_of_ble_eq_true rfl, .inl ⟨rfl, _, rfl, arr_same (fun q hq => ?_) fun _ _ => rfl⟩⟩
          exact congrArg encV (PG.eq ((PG.rot g (Nat.le_succ a) hi1).mono (Nat.le_refl _) (by omega) hi3) (one_left hi1 hi3 hs hi4 hi5) (fun q _ h => hr q (by omega)) q)

/-- what symMerge does, of so many values -/
def SymC (K : Nat) : Prop := ∀ (n : Nat) (f : Nat → AV) (a m b : Nat), a < m → m < b → b ≤ n → b - a ≤ K → n ≤ 1000000000 → (∀ i, i < n → isV (f i) = true) → (∀ q, q < n → right (gO n f q) = true) → SS (gO n f) a m → SS (gO n f) m b →
    HC Tryz.prog GV 217 [.hs 0 0 n 3 none, .int .i64 a, .int .i64 m, .int .i64 b, .clo 53 [] []] (St.small [.arr 34 3 n f] []) (.tup []) (rowG n (srtG (gO n f) a b))
noncomputable def h_sym (K : Nat) : List AV → St → Res
  | [.hs i 0 n 3 none, .int .i64 a, .int .i64 b, .int .i64 k, .clo c [] []], m => match m.h i with
    | some (.arr T 3 n' f) => @Res.need (T = 34 ∧ n' = n ∧ c = 53 ∧ (0 ≤ a ∧ a < b ∧ b < k ∧ k ≤ n ∧ k - a ≤ K) ∧ n ≤ 1000000000 ∧ (∀ q, q < n → isV (f q) = true) ∧ (∀ q, q < n → right (gO n f q) = true) ∧ SS (gO n f) a.toNat b.toNat ∧ SS (gO n f) b.toNat k.toNat) (Classical.propDecidable _) (.tup [])
        (m.within (St.small [.arr 34 3 n f] []) (rowG n (srtG (gO n f) a.toNat k.toNat)) [i] [])
    | _ => .fail
  | _, _ => .fail
theorem h_sym_ok {K : Nat} (hK : SymC K) (xs : List AV) (m : St) : HRok Tryz.prog GV 217 xs m (h_sym K xs m) := by
  unfold h_sym
  split
  · rename_i i n a b k c
    split
    · rename_i T n' f hi
      rintro ⟨rfl, rfl, rfl, ⟨h1, h2, h3, h4, h5⟩, hn, hf, hr, s1, s2⟩
      obtain ⟨x, rfl⟩ := Int.eq_ofNat_of_zero_le h1
      obtain ⟨y, rfl⟩ := Int.eq_ofNat_of_zero_le (show 0 ≤ b by omega)
      obtain ⟨z, rfl⟩ := Int.eq_ofNat_of_zero_le (show 0 ≤ k by omega)
      exact hc_small (hK n' f x y z (by omega) (by omega) (by omega) (by omega) hn hf hr s1 s2) [i] [] (Nat.le_of_ble_eq_true rfl) (Nat.le_refl _) rfl (by simp) (by simp) ⟨⟨fun j hj => under_V (hf j hj), _, hi, fits_V hf⟩, trivial⟩ trivial
    · trivial
  · trivial
noncomputable def ESk (K : Nat) : Env := ES2.addH 217 (h_sym K)
theorem ESk_ok {K : Nat} (hK : SymC K) : EnvOk Tryz.prog (ESk K) := Env.addH_ok ES2_ok (by kernel_rfl) (h_sym_ok hK)
/-- the row holds these -/
def Holds2 (n : Nat) (f : Nat → AV) (v : Nat → V) : Prop := ∀ q, q < n → f q = encV (v q)
theorem Holds2.gv {n : Nat} {f : Nat → AV} {v : Nat → V} (h : Holds2 n f v) {q : Nat} (hq : q < n) : gO n f q = v q := by
  rw [gO_lt hq, h q hq]; rfl
theorem Holds2.rot {n : Nat} {f : Nat → AV} {v : Nat → V} (h : Holds2 n f v) {s m e : Nat} {S M E : Int} (hS : S = s) (hM : M = m) (hE : E = e) (h1 : s ≤ m) (h2 : m ≤ e) (h3 : e ≤ n) : Holds2 n (fun q => encV (rotG (gO n f) S.toNat M.toNat E.toNat q)) (rotG v s m e) := fun q hq => by
  subst hS hM hE
  simp only [Int.toNat_natCast]
  unfold rotG
  repeat' split
  all_goals exact congrArg encV (h.gv (by omega))
theorem Holds2.srt {n : Nat} {f : Nat → AV} {v : Nat → V} (h : Holds2 n f v) {a b : Nat} {A B : Int} (hA : A = a) (hB : B = b) (h2 : b ≤ n) : Holds2 n (fun q => encV (srtG (gO n f) A.toNat B.toNat q)) (srtG v a b) := fun q hq => by
  subst hA hB
  simp only [Int.toNat_natCast]
  unfold srtG
  rw [seg_congr (g := gO n f) (h := v) fun q _ h3 => h.gv (by omega), h.gv hq]
theorem Holds2.eq {n : Nat} {f : Nat → AV} {v w : Nat → V} (h : Holds2 n f v) (e : ∀ q, v q = w q) : Holds2 n f w := fun q hq => (h q hq).trans (congrArg encV (e q))
theorem need_sym {K n : Nat} {f : Nat → AV} {v : Nat → V} {a s m : Nat} {A S M : Int} (hv : Holds2 n f v) (hA : A = a) (hS : S = s) (hM : M = m) (h1 : a < s) (h2 : s < m) (h3 : m ≤ n) (h4 : m - a ≤ K) (hn : n ≤ 1000000000) (hr : ∀ q, q < n → right (v q) = true) (s1 : SS v a s) (s2 : SS v s m) :
    34 = 34 ∧ n = n ∧ 53 = 53 ∧ (0 ≤ A ∧ A < S ∧ S < M ∧ M ≤ n ∧ M - A ≤ K) ∧ n ≤ 1000000000 ∧ (∀ q, q < n → isV (f q) = true) ∧ (∀ q, q < n → right (gO n f q) = true) ∧ SS (gO n f) A.toNat S.toNat ∧ SS (gO n f) S.toNat M.toNat := by
  subst hA hS hM
  rw [Int.toNat_natCast, Int.toNat_natCast, Int.toNat_natCast]
  exact ⟨rfl, rfl, rfl, by omega, hn, fun q hq => by rw [hv q hq]; rfl, fun q hq => by rw [hv.gv hq]; exact hr q hq, s1.congr fun q _ h => hv.gv (by omega), s2.congr fun q _ h => hv.gv (by omega)⟩

set_option smartUnfolding false in
theorem hc_sym_c1 {K : Nat} (hK : SymC K) (n : Nat) (f : Nat → AV) (a m b : Nat) (h1 : a + 1 < m) (h2 : m + 1 < b) (h3 : b ≤ n) (h4 : b - a ≤ K + 1) (hn : n ≤ 1000000000) (hf : ∀ i, i < n → isV (f i) = true) (hr : ∀ q, q < n → right (gO n f q) = true) (hs : SS (gO n f) a m) (hs2 : SS (gO n f) m b) (hmm : m > (a + b) / 2) :
    HC Tryz.prog GV 217 [.hs 0 0 n 3 none, .int .i64 a, .int .i64 m, .int .i64 b, .clo 53 [] []] (St.small [.arr 34 3 n f] []) (.tup []) (rowG n (srtG (gO n f) a b)) := by
  generalize hg : gO n f = g at hr hs hs2 ⊢
  have k0 : (IntKind.i64.wrap ((m : Int) - (a : Int)) == 1) = false := by rw [wrap_id (by unfold i64; omega)]; simp; omega
  have k3 : (IntKind.i64.wrap ((b : Int) - (m : Int)) == 1) = false := by rw [wrap_id (by unfold i64; omega)]; simp; omega
  have wm := Hid.mk (midA_is a b (by omega))
  have wn : Hid (IntKind.i64.wrap (midA a b + (m : Int)) = (((a + b) / 2 + m : Nat) : Int)) := ⟨i64_nat (by rw [wm.out]; rfl) (by omega)⟩
  have hm1 : a < (a + b) / 2 := by omega
  have hm2 : (a + b) / 2 < b := by omega
  have hm3 : 2 * ((a + b) / 2) ≤ a + b := by omega
  have hm4 : a + b ≤ 2 * ((a + b) / 2) + 1 := by omega
  generalize (a + b) / 2 = mid at wm wn hm1 hm2 hm3 hm4 hmm
  have wp : Hid (IntKind.i64.wrap (IntKind.i64.wrap (midA a b + (m : Int)) - 1) = ((mid + m - 1 : Nat) : Int)) := ⟨by rw [wn.out]; exact i64_nat (by omega) (by omega)⟩
  have hHf : Holds2 n f g := fun q hq => by rw [vG_gO hq (hf q hq), hg]; rfl
  have k4 : decide ((m : Int) > midA a b) = true := by rw [wm.out]; exact decide_eq_true (by omega)
  refine hc_of (ESk_ok hK) mixed (show Tryz.prog.funcs[217]? = some Tryz.f217 from rfl) (Nat.le_of_ble_eq_true rfl) (Nat.le_of_ble_eq_true rfl) ?_
  repeat' (refine BR.mk (fun h => ?_) (fun h => ?_) <;> first | with_reducible exact Bool.noConfusion h | with_reducible exact Bool.noConfusion (k0.symm.trans h) | with_reducible exact Bool.noConfusion (k3.symm.trans h) | with_reducible exact Bool.noConfusion (k4.symm.trans h) | skip)
  all_goals try exact (show (0 : Int) ≤ 1 by decide)
  refine loop_fam (ESk_ok hK) mixed (σ := Nat × Nat) (fun p => (mid + m - b) ≤ p.1 ∧ p.1 ≤ p.2 ∧ p.2 ≤ mid ∧ ((mid + m - b) < p.1 → ¬ compareV (g (mid + m - 1 - (p.1 - 1))) (g (p.1 - 1)) < 0) ∧ (p.2 < mid → compareV (g (mid + m - 1 - p.2)) (g p.2) < 0)) (fun p => p.2 - p.1) ((mid + m - b), mid) ⟨Nat.le_refl _, by show (mid + m - b) ≤ mid; omega, Nat.le_refl _, fun h => absurd h (Nat.lt_irrefl _), fun h => absurd h (Nat.lt_irrefl _)⟩ 1 0 [0, 1, 2, 3, 4, 18, 19, 22]
    (fun p => [(20, .int .i64 p.1), (21, .int .i64 p.2)]) [] (fun _ => [(0, .arr 34 3 n (vG g))]) (fun _ => []) ?_ ?_ ?_ ?_
  · rfl
  · rfl
  · refine Wk.mk' rfl rfl trivial ?_ ?_
    repeat' (refine BR.mk (fun _ => ?_) (fun _ => ?_))
    any_goals first | exact trivial | exact Wv.any _ | (refine Wv.int ?_; with_reducible rfl) | (refine Wv.str ?_; with_reducible rfl) | (refine Wv.bool ?_; with_reducible rfl) | refine Wv.int ?_ | refine Wv.str ?_ | refine Wv.bool ?_ | exact Wv.same rfl
    · exact (show IntKind.i64.wrap (IntKind.i64.wrap (midA a b + (m : Int)) - (b : Int)) = ((mid + m - b : Nat) : Int) by rw [wn.out]; exact i64_nat (by omega) (by omega))
    · exact wm.out
    · refine ⟨Nat.le_of_ble_eq_true rfl, .inl ⟨rfl, _, rfl, arr_same (fun j hj => ?_) fun j _ => rfl⟩⟩
      rw [vG_gO hj (hf j hj), hg]
  · rintro ⟨i, j⟩ ⟨hi1, hi2, hi3, hi4, hi5⟩
    simp only at hi1 hi2 hi3 hi4 hi5
    have wc := Hid.mk (midA_is i j (by omega))
    by_cases hij : i < j
    · have k5 : decide (((i : Nat) : Int) < (j : Int)) = true := decide_eq_true (by omega)
      have wx : Hid (0 + (midA i j).toNat = (i + j) / 2) := ⟨by rw [wc.out]; exact toNat0 _⟩
      have wy : Hid (IntKind.i64.wrap (IntKind.i64.wrap (IntKind.i64.wrap (midA a b + (m : Int)) - 1) - midA i j) = ((mid + m - 1 - (i + j) / 2 : Nat) : Int)) := ⟨by rw [wp.out, wc.out]; exact i64_nat (by omega) (by omega)⟩
      by_cases hc : compareV (g (mid + m - 1 - (i + j) / 2)) (g ((i + j) / 2)) < 0
      · have k6 : (!decide (compareV (g (0 + (IntKind.i64.wrap (IntKind.i64.wrap (IntKind.i64.wrap (midA a b + (m : Int)) - 1) - midA i j)).toNat)) (g (0 + (midA i j).toNat)) < 0)) = false := by rw [wx.out, wy.out, toNat0, decide_eq_true hc]; rfl
        repeat' (refine BR.mk (fun h => ?_) (fun h => ?_) <;> first | with_reducible exact Bool.noConfusion h | with_reducible exact Bool.noConfusion (k5.symm.trans h) | with_reducible exact Bool.noConfusion (k6.symm.trans h) | skip)
        · exact (show (0 : Int) ≤ 1 by decide)
        · exact (show commutes _ _ = true by kernel_rfl)
        · exact ⟨⟨by show 0 ≤ IntKind.i64.wrap (IntKind.i64.wrap (IntKind.i64.wrap (midA a b + (m : Int)) - 1) - midA i j); rw [wy.out]; omega, by show IntKind.i64.wrap (IntKind.i64.wrap (IntKind.i64.wrap (midA a b + (m : Int)) - 1) - midA i j) < (n : Int); rw [wy.out]; omega⟩, rfl⟩
        · exact ⟨by show 0 + (IntKind.i64.wrap (IntKind.i64.wrap (IntKind.i64.wrap (midA a b + (m : Int)) - 1) - midA i j)).toNat < n; rw [wy.out]; omega, rfl⟩
        · exact ⟨⟨by show 0 ≤ midA i j; rw [wc.out]; omega, by show midA i j < (n : Int); rw [wc.out]; omega⟩, rfl⟩
        · exact ⟨by show 0 + (midA i j).toNat < n; rw [wx.out]; omega, rfl⟩
        refine Again.fam (i, (i + j) / 2) ⟨hi1, by show i ≤ (i + j) / 2; omega, by show (i + j) / 2 ≤ mid; omega, hi4, fun _ => hc⟩ (by show (i + j) / 2 - i < j - i; omega) rfl rfl rfl rfl trivial ?_ ?_
        · repeat' (refine BR.mk (fun _ => ?_) (fun _ => ?_))
          any_goals first | exact trivial | exact Wv.any _ | (refine Wv.int ?_; with_reducible rfl) | (refine Wv.str ?_; with_reducible rfl) | (refine Wv.bool ?_; with_reducible rfl) | refine Wv.int ?_ | refine Wv.str ?_ | refine Wv.bool ?_ | exact Wv.same rfl
          exact wc.out
        · repeat' (refine BR.mk (fun _ => ?_) (fun _ => ?_))
          any_goals first | exact trivial | exact Wv.any _ | (refine Wv.int ?_; with_reducible rfl) | (refine Wv.str ?_; with_reducible rfl) | (refine Wv.bool ?_; with_reducible rfl) | refine Wv.int ?_ | refine Wv.str ?_ | refine Wv.bool ?_ | exact Wv.same rfl
          exact ⟨Nat.le_of_ble_eq_true rfl, .inl ⟨rfl, _, rfl, arr_same (fun j hj => rfl) fun j _ => rfl⟩⟩
      · have k6 : (!decide (compareV (g (0 + (IntKind.i64.wrap (IntKind.i64.wrap (IntKind.i64.wrap (midA a b + (m : Int)) - 1) - midA i j)).toNat)) (g (0 + (midA i j).toNat)) < 0)) = true := by rw [wx.out, wy.out, toNat0, decide_eq_false hc]; rfl
        repeat' (refine BR.mk (fun h => ?_) (fun h => ?_) <;> first | with_reducible exact Bool.noConfusion h | with_reducible exact Bool.noConfusion (k5.symm.trans h) | with_reducible exact Bool.noConfusion (k6.symm.trans h) | skip)
        · exact (show (0 : Int) ≤ 1 by decide)
        · exact (show commutes _ _ = true by kernel_rfl)
        · exact ⟨⟨by show 0 ≤ IntKind.i64.wrap (IntKind.i64.wrap (IntKind.i64.wrap (midA a b + (m : Int)) - 1) - midA i j); rw [wy.out]; omega, by show IntKind.i64.wrap (IntKind.i64.wrap (IntKind.i64.wrap (midA a b + (m : Int)) - 1) - midA i j) < (n : Int); rw [wy.out]; omega⟩, rfl⟩
        · exact ⟨by show 0 + (IntKind.i64.wrap (IntKind.i64.wrap (IntKind.i64.wrap (midA a b + (m : Int)) - 1) - midA i j)).toNat < n; rw [wy.out]; omega, rfl⟩
        · exact ⟨⟨by show 0 ≤ midA i j; rw [wc.out]; omega, by show midA i j < (n : Int); rw [wc.out]; omega⟩, rfl⟩
        · exact ⟨by show 0 + (midA i j).toNat < n; rw [wx.out]; omega, rfl⟩
        refine Again.fam ((i + j) / 2 + 1, j) ⟨by show (mid + m - b) ≤ _; omega, by show (i + j) / 2 + 1 ≤ j; omega, hi3, fun _ => by show ¬ compareV (g (mid + m - 1 - ((i + j) / 2 + 1 - 1))) (g ((i + j) / 2 + 1 - 1)) < 0; rw [Nat.add_sub_cancel]; exact hc, hi5⟩ (by show j - ((i + j) / 2 + 1) < j - i; omega) rfl rfl rfl rfl trivial ?_ ?_
        · repeat' (refine BR.mk (fun _ => ?_) (fun _ => ?_))
          any_goals first | exact trivial | exact Wv.any _ | (refine Wv.int ?_; with_reducible rfl) | (refine Wv.str ?_; with_reducible rfl) | (refine Wv.bool ?_; with_reducible rfl) | refine Wv.int ?_ | refine Wv.str ?_ | refine Wv.bool ?_ | exact Wv.same rfl
          exact i64_nat (by show midA i j + 1 = _; rw [wc.out]; rfl) (by show (i + j) / 2 + 1 ≤ _; omega)
        · repeat' (refine BR.mk (fun _ => ?_) (fun _ => ?_))
          any_goals first | exact trivial | exact Wv.any _ | (refine Wv.int ?_; with_reducible rfl) | (refine Wv.str ?_; with_reducible rfl) | (refine Wv.bool ?_; with_reducible rfl) | refine Wv.int ?_ | refine Wv.str ?_ | refine Wv.bool ?_ | exact Wv.same rfl
          exact ⟨Nat.le_of_ble_eq_true rfl, .inl ⟨rfl, _, rfl, arr_same (fun j hj => rfl) fun j _ => rfl⟩⟩
    · have k5 : decide (((i : Nat) : Int) < (j : Int)) = false := decide_eq_false (by omega)
      obtain rfl : i = j := by omega
      have eE : Hid (IntKind.i64.wrap (IntKind.i64.wrap (midA a b + (m : Int)) - (i : Int)) = ((mid + m - i : Nat) : Int)) := ⟨by rw [wn.out]; exact i64_nat (by omega) (by omega)⟩
      have cut : Cut g a m b mid i (mid + m - i) := by
        refine ⟨by omega, by omega, by omega, by omega, by omega, by omega, by omega, fun e1 e2 => ?_, fun e1 e2 => ?_⟩
        · have := hi4 (by omega)
          rwa [show mid + m - 1 - (i - 1) = mid + m - i from by omega] at this
        · have := hi5 (by omega)
          rwa [show mid + m - 1 - i = mid + m - i - 1 from by omega] at this
      obtain ⟨c1, c2, c3, c4⟩ := cut.ss_l hs hs2
      have pr := PG.rot g cut.sm cut.me
      have r1 := pr.rgt (show mid + m - i ≤ n by omega) hr
      have done := cut.done hs hs2 (PG.srt (rotG g i m (mid + m - i)) a mid) (srtG_SS _ a mid) (PG.srt (srtG (rotG g i m (mid + m - i)) a mid) mid b) (srtG_SS _ mid b) (fun q _ h => hr q (by omega))
      have r2 := (PG.srt (rotG g i m (mid + m - i)) a mid).rgt (show mid ≤ n by omega) r1
      have d1 : SS (srtG (rotG g i m (mid + m - i)) a mid) mid (mid + m - i) := c3.congr fun q h5 _ => srtG_out (by omega)
      have d2 : SS (srtG (rotG g i m (mid + m - i)) a mid) (mid + m - i) b := c4.congr fun q h5 _ => srtG_out (by omega)
      have hnoA : ¬(a < i ∧ i < mid) → ∀ q, rotG g i m (mid + m - i) q = srtG (rotG g i m (mid + m - i)) a mid q := fun h q => (PG.refl _ a mid).eq (by
        by_cases e : a < i
        · obtain rfl : i = mid := by omega
          exact c1
        · obtain rfl : a = i := by omega
          exact c2) (fun q _ h5 => r1 q (by omega)) q
      have hnoB : ¬(mid < mid + m - i ∧ mid + m - i < b) → ∀ q, srtG (rotG g i m (mid + m - i)) a mid q = srtG (srtG (rotG g i m (mid + m - i)) a mid) mid b q := fun h q => (PG.refl _ mid b).eq (by
        by_cases e : mid < mid + m - i
        · exact d1.mono (Nat.le_refl _) (by omega)
        · exact d2.mono (by omega) (Nat.le_refl _)) (fun q _ h5 => r2 q (by omega)) q
      have hnoR : ¬(i < m ∧ m < mid + m - i) → ∀ q, g q = rotG g i m (mid + m - i) q := fun h q => by
        by_cases e : i < m
        · rw [show mid + m - i = m from by omega, rotG_none' g i m (by omega) q]
        · rw [show i = m from by omega, rotG_none g m _ q]
      by_cases p2 : i < mid
      · skip
        by_cases p3 : a < i
        · by_cases p4 : mid + m - i < b
          · skip
            have q1 : decide ((i : Int) < (m : Int)) = true := decide_eq_true (by omega)
            have q2 : decide ((m : Int) < IntKind.i64.wrap (IntKind.i64.wrap (midA a b + (m : Int)) - (i : Int))) = true := decide_eq_true (by rw [eE.out]; omega)
            have q3 : decide ((a : Int) < (i : Int)) = true := decide_eq_true (by omega)
            have q4 : decide ((i : Int) < midA a b) = true := decide_eq_true (by rw [wm.out]; omega)
            have q5 : decide (midA a b < IntKind.i64.wrap (IntKind.i64.wrap (midA a b + (m : Int)) - (i : Int))) = true := decide_eq_true (by rw [eE.out, wm.out]; omega)
            have q6 : decide (IntKind.i64.wrap (IntKind.i64.wrap (midA a b + (m : Int)) - (i : Int)) < (b : Int)) = true := decide_eq_true (by rw [eE.out]; omega)
            repeat' (refine BR.mk (fun h => ?_) (fun h => ?_) <;> first | with_reducible exact Bool.noConfusion h | with_reducible exact Bool.noConfusion (k5.symm.trans h) | with_reducible exact Bool.noConfusion (q1.symm.trans h) | with_reducible exact Bool.noConfusion (q2.symm.trans h) | with_reducible exact Bool.noConfusion (q3.symm.trans h) | with_reducible exact Bool.noConfusion (q4.symm.trans h) | with_reducible exact Bool.noConfusion (q5.symm.trans h) | with_reducible exact Bool.noConfusion (q6.symm.trans h) | skip)
            · refine ⟨rfl, rfl, ?_, hn, fun _ _ => rfl⟩
              show 0 ≤ (i : Int) ∧ (i : Int) < (m : Int) ∧ (m : Int) < IntKind.i64.wrap (IntKind.i64.wrap (midA a b + (m : Int)) - (i : Int)) ∧ IntKind.i64.wrap (IntKind.i64.wrap (midA a b + (m : Int)) - (i : Int)) ≤ (n : Int)
              rw [eE.out]; omega
            · exact need_sym (Holds2.rot (S := (i : Int)) (M := (m : Int)) (fun q _ => rfl : Holds2 n (vG g) g) rfl rfl eE.out cut.sm cut.me (by omega)) rfl rfl wm.out (by omega) (by omega) (by omega) (by omega) hn r1 c1 c2
            · exact need_sym (Holds2.srt (A := (a : Int)) (Holds2.rot (S := (i : Int)) (M := (m : Int)) (fun q _ => rfl : Holds2 n (vG g) g) rfl rfl eE.out cut.sm cut.me (by omega)) rfl wm.out (by omega)) wm.out eE.out rfl (by omega) (by omega) (by omega) (by omega) hn r2 d1 d2
            · refine Go.Ab.Left.mk (Nat.le_of_ble_eq_true rfl) ⟨[], fun _ _ => rfl, Wv.same rfl, Wk.mk' rfl rfl trivial trivial ?_⟩
              repeat' (refine BR.mk (fun _ => ?_) (fun _ => ?_))
              any_goals first | exact trivial | exact Wv.any _ | (refine Wv.int ?_; with_reducible rfl) | (refine Wv.str ?_; with_reducible rfl) | (refine Wv.bool ?_; with_reducible rfl) | refine Wv.int ?_ | refine Wv.str ?_ | refine Wv.bool ?_ | exact Wv.same rfl
              exact ⟨Nat.le_of_ble_eq_true rfl, .inl ⟨rfl, _, rfl, arr_same (fun q hq => ((Holds2.eq (Holds2.srt (B := (b : Int)) (Holds2.srt (A := (a : Int)) (Holds2.rot (S := (i : Int)) (M := (m : Int)) (fun q _ => rfl : Holds2 n (vG g) g) rfl rfl eE.out cut.sm cut.me (by omega)) rfl wm.out (by omega)) wm.out rfl (by omega)) done) q hq)) fun _ _ => rfl⟩⟩
          · skip
            have q1 : decide ((i : Int) < (m : Int)) = true := decide_eq_true (by omega)
            have q2 : decide ((m : Int) < IntKind.i64.wrap (IntKind.i64.wrap (midA a b + (m : Int)) - (i : Int))) = true := decide_eq_true (by rw [eE.out]; omega)
            have q3 : decide ((a : Int) < (i : Int)) = true := decide_eq_true (by omega)
            have q4 : decide ((i : Int) < midA a b) = true := decide_eq_true (by rw [wm.out]; omega)
            have q5 : decide (midA a b < IntKind.i64.wrap (IntKind.i64.wrap (midA a b + (m : Int)) - (i : Int))) = true := decide_eq_true (by rw [eE.out, wm.out]; omega)
            have q6 : decide (IntKind.i64.wrap (IntKind.i64.wrap (midA a b + (m : Int)) - (i : Int)) < (b : Int)) = false := decide_eq_false (by rw [eE.out]; omega)
            repeat' (refine BR.mk (fun h => ?_) (fun h => ?_) <;> first | with_reducible exact Bool.noConfusion h | with_reducible exact Bool.noConfusion (k5.symm.trans h) | with_reducible exact Bool.noConfusion (q1.symm.trans h) | with_reducible exact Bool.noConfusion (q2.symm.trans h) | with_reducible exact Bool.noConfusion (q3.symm.trans h) | with_reducible exact Bool.noConfusion (q4.symm.trans h) | with_reducible exact Bool.noConfusion (q5.symm.trans h) | with_reducible exact Bool.noConfusion (q6.symm.trans h) | skip)
            · refine ⟨rfl, rfl, ?_, hn, fun _ _ => rfl⟩
              show 0 ≤ (i : Int) ∧ (i : Int) < (m : Int) ∧ (m : Int) < IntKind.i64.wrap (IntKind.i64.wrap (midA a b + (m : Int)) - (i : Int)) ∧ IntKind.i64.wrap (IntKind.i64.wrap (midA a b + (m : Int)) - (i : Int)) ≤ (n : Int)
              rw [eE.out]; omega
            · exact need_sym (Holds2.rot (S := (i : Int)) (M := (m : Int)) (fun q _ => rfl : Holds2 n (vG g) g) rfl rfl eE.out cut.sm cut.me (by omega)) rfl rfl wm.out (by omega) (by omega) (by omega) (by omega) hn r1 c1 c2
            · refine Go.Ab.Left.mk (Nat.le_of_ble_eq_true rfl) ⟨[], fun _ _ => rfl, Wv.same rfl, Wk.mk' rfl rfl trivial trivial ?_⟩
              repeat' (refine BR.mk (fun _ => ?_) (fun _ => ?_))
              any_goals first | exact trivial | exact Wv.any _ | (refine Wv.int ?_; with_reducible rfl) | (refine Wv.str ?_; with_reducible rfl) | (refine Wv.bool ?_; with_reducible rfl) | refine Wv.int ?_ | refine Wv.str ?_ | refine Wv.bool ?_ | exact Wv.same rfl
              exact ⟨Nat.le_of_ble_eq_true rfl, .inl ⟨rfl, _, rfl, arr_same (fun q hq => ((Holds2.eq (Holds2.eq (Holds2.srt (A := (a : Int)) (Holds2.rot (S := (i : Int)) (M := (m : Int)) (fun q _ => rfl : Holds2 n (vG g) g) rfl rfl eE.out cut.sm cut.me (by omega)) rfl wm.out (by omega)) (hnoB (by omega))) done) q hq)) fun _ _ => rfl⟩⟩
        · by_cases p4 : mid + m - i < b
          · skip
            have q1 : decide ((i : Int) < (m : Int)) = true := decide_eq_true (by omega)
            have q2 : decide ((m : Int) < IntKind.i64.wrap (IntKind.i64.wrap (midA a b + (m : Int)) - (i : Int))) = true := decide_eq_true (by rw [eE.out]; omega)
            have q3 : decide ((a : Int) < (i : Int)) = false := decide_eq_false (by omega)
            have q5 : decide (midA a b < IntKind.i64.wrap (IntKind.i64.wrap (midA a b + (m : Int)) - (i : Int))) = true := decide_eq_true (by rw [eE.out, wm.out]; omega)
            have q6 : decide (IntKind.i64.wrap (IntKind.i64.wrap (midA a b + (m : Int)) - (i : Int)) < (b : Int)) = true := decide_eq_true (by rw [eE.out]; omega)
            repeat' (refine BR.mk (fun h => ?_) (fun h => ?_) <;> first | with_reducible exact Bool.noConfusion h | with_reducible exact Bool.noConfusion (k5.symm.trans h) | with_reducible exact Bool.noConfusion (q1.symm.trans h) | with_reducible exact Bool.noConfusion (q2.symm.trans h) | with_reducible exact Bool.noConfusion (q3.symm.trans h) | with_reducible exact Bool.noConfusion (q5.symm.trans h) | with_reducible exact Bool.noConfusion (q6.symm.trans h) | skip)
            · refine ⟨rfl, rfl, ?_, hn, fun _ _ => rfl⟩
              show 0 ≤ (i : Int) ∧ (i : Int) < (m : Int) ∧ (m : Int) < IntKind.i64.wrap (IntKind.i64.wrap (midA a b + (m : Int)) - (i : Int)) ∧ IntKind.i64.wrap (IntKind.i64.wrap (midA a b + (m : Int)) - (i : Int)) ≤ (n : Int)
              rw [eE.out]; omega
            · exact need_sym (Holds2.eq (Holds2.rot (S := (i : Int)) (M := (m : Int)) (fun q _ => rfl : Holds2 n (vG g) g) rfl rfl eE.out cut.sm cut.me (by omega)) (hnoA (by omega))) wm.out eE.out rfl (by omega) (by omega) (by omega) (by omega) hn r2 d1 d2
            · refine Go.Ab.Left.mk (Nat.le_of_ble_eq_true rfl) ⟨[], fun _ _ => rfl, Wv.same rfl, Wk.mk' rfl rfl trivial trivial ?_⟩
              repeat' (refine BR.mk (fun _ => ?_) (fun _ => ?_))
              any_goals first | exact trivial | exact Wv.any _ | (refine Wv.int ?_; with_reducible rfl) | (refine Wv.str ?_; with_reducible rfl) | (refine Wv.bool ?_; with_reducible rfl) | refine Wv.int ?_ | refine Wv.str ?_ | refine Wv.bool ?_ | exact Wv.same rfl
              exact ⟨Nat.le_of_ble_eq_true rfl, .inl ⟨rfl, _, rfl, arr_same (fun q hq => ((Holds2.eq (Holds2.srt (B := (b : Int)) (Holds2.eq (Holds2.rot (S := (i : Int)) (M := (m : Int)) (fun q _ => rfl : Holds2 n (vG g) g) rfl rfl eE.out cut.sm cut.me (by omega)) (hnoA (by omega))) wm.out rfl (by omega)) done) q hq)) fun _ _ => rfl⟩⟩
          · skip
            have q1 : decide ((i : Int) < (m : Int)) = true := decide_eq_true (by omega)
            have q2 : decide ((m : Int) < IntKind.i64.wrap (IntKind.i64.wrap (midA a b + (m : Int)) - (i : Int))) = true := decide_eq_true (by rw [eE.out]; omega)
            have q3 : decide ((a : Int) < (i : Int)) = false := decide_eq_false (by omega)
            have q5 : decide (midA a b < IntKind.i64.wrap (IntKind.i64.wrap (midA a b + (m : Int)) - (i : Int))) = true := decide_eq_true (by rw [eE.out, wm.out]; omega)
            have q6 : decide (IntKind.i64.wrap (IntKind.i64.wrap (midA a b + (m : Int)) - (i : Int)) < (b : Int)) = false := decide_eq_false (by rw [eE.out]; omega)
            repeat' (refine BR.mk (fun h => ?_) (fun h => ?_) <;> first | with_reducible exact Bool.noConfusion h | with_reducible exact Bool.noConfusion (k5.symm.trans h) | with_reducible exact Bool.noConfusion (q1.symm.trans h) | with_reducible exact Bool.noConfusion (q2.symm.trans h) | with_reducible exact Bool.noConfusion (q3.symm.trans h) | with_reducible exact Bool.noConfusion (q5.symm.trans h) | with_reducible exact Bool.noConfusion (q6.symm.trans h) | skip)
            · refine ⟨rfl, rfl, ?_, hn, fun _ _ => rfl⟩
              show 0 ≤ (i : Int) ∧ (i : Int) < (m : Int) ∧ (m : Int) < IntKind.i64.wrap (IntKind.i64.wrap (midA a b + (m : Int)) - (i : Int)) ∧ IntKind.i64.wrap (IntKind.i64.wrap (midA a b + (m : Int)) - (i : Int)) ≤ (n : Int)
              rw [eE.out]; omega
            · refine Go.Ab.Left.mk (Nat.le_of_ble_eq_true rfl) ⟨[], fun _ _ => rfl, Wv.same rfl, Wk.mk' rfl rfl trivial trivial ?_⟩
              repeat' (refine BR.mk (fun _ => ?_) (fun _ => ?_))
              any_goals first | exact trivial | exact Wv.any _ | (refine Wv.int ?_; with_reducible rfl) | (refine Wv.str ?_; with_reducible rfl) | (refine Wv.bool ?_; with_reducible rfl) | refine Wv.int ?_ | refine Wv.str ?_ | refine Wv.bool ?_ | exact Wv.same rfl
              exact ⟨Nat.le_of_ble_eq_true rfl, .inl ⟨rfl, _, rfl, arr_same (fun q hq => ((Holds2.eq (Holds2.eq (Holds2.eq (Holds2.rot (S := (i : Int)) (M := (m : Int)) (fun q _ => rfl : Holds2 n (vG g) g) rfl rfl eE.out cut.sm cut.me (by omega)) (hnoA (by omega))) (hnoB (by omega))) done) q hq)) fun _ _ => rfl⟩⟩
      · skip
        have q1 : decide ((i : Int) < (m : Int)) = true := decide_eq_true (by omega)
        have q2 : decide ((m : Int) < IntKind.i64.wrap (IntKind.i64.wrap (midA a b + (m : Int)) - (i : Int))) = false := decide_eq_false (by rw [eE.out]; omega)
        have q3 : decide ((a : Int) < (i : Int)) = true := decide_eq_true (by omega)
        have q4 : decide ((i : Int) < midA a b) = false := decide_eq_false (by rw [wm.out]; omega)
        have q5 : decide (midA a b < IntKind.i64.wrap (IntKind.i64.wrap (midA a b + (m : Int)) - (i : Int))) = true := decide_eq_true (by rw [eE.out, wm.out]; omega)
        have q6 : decide (IntKind.i64.wrap (IntKind.i64.wrap (midA a b + (m : Int)) - (i : Int)) < (b : Int)) = true := decide_eq_true (by rw [eE.out]; omega)
        repeat' (refine BR.mk (fun h => ?_) (fun h => ?_) <;> first | with_reducible exact Bool.noConfusion h | with_reducible exact Bool.noConfusion (k5.symm.trans h) | with_reducible exact Bool.noConfusion (q1.symm.trans h) | with_reducible exact Bool.noConfusion (q2.symm.trans h) | with_reducible exact Bool.noConfusion (q3.symm.trans h) | with_reducible exact Bool.noConfusion (q4.symm.trans h) | with_reducible exact Bool.noConfusion (q5.symm.trans h) | with_reducible exact Bool.noConfusion (q6.symm.trans h) | skip)
        · exact need_sym (Holds2.eq (Holds2.eq (fun q _ => rfl : Holds2 n (vG g) g) (hnoR (by omega))) (hnoA (by omega))) wm.out eE.out rfl (by omega) (by omega) (by omega) (by omega) hn r2 d1 d2
        · refine Go.Ab.Left.mk (Nat.le_of_ble_eq_true rfl) ⟨[], fun _ _ => rfl, Wv.same rfl, Wk.mk' rfl rfl trivial trivial ?_⟩
          repeat' (refine BR.mk (fun _ => ?_) (fun _ => ?_))
          any_goals first | exact trivial | exact Wv.any _ | (refine Wv.int ?_; with_reducible rfl) | (refine Wv.str ?_; with_reducible rfl) | (refine Wv.bool ?_; with_reducible rfl) | refine Wv.int ?_ | refine Wv.str ?_ | refine Wv.bool ?_ | exact Wv.same rfl
          exact ⟨Nat.le_of_ble_eq_true rfl, .inl ⟨rfl, _, rfl, arr_same (fun q hq => ((Holds2.eq (Holds2.srt (B := (b : Int)) (Holds2.eq (Holds2.eq (fun q _ => rfl : Holds2 n (vG g) g) (hnoR (by omega))) (hnoA (by omega))) wm.out rfl (by omega)) done) q hq)) fun _ _ => rfl⟩⟩

set_option smartUnfolding false in
theorem hc_sym_c2 {K : Nat} (hK : SymC K) (n : Nat) (f : Nat → AV) (a m b : Nat) (h1 : a + 1 < m) (h2 : m + 1 < b) (h3 : b ≤ n) (h4 : b - a ≤ K + 1) (hn : n ≤ 1000000000) (hf : ∀ i, i < n → isV (f i) = true) (hr : ∀ q, q < n → right (gO n f q) = true) (hs : SS (gO n f) a m) (hs2 : SS (gO n f) m b) (hmm : ¬ m > (a + b) / 2) :
    HC Tryz.prog GV 217 [.hs 0 0 n 3 none, .int .i64 a, .int .i64 m, .int .i64 b, .clo 53 [] []] (St.small [.arr 34 3 n f] []) (.tup []) (rowG n (srtG (gO n f) a b)) := by
  generalize hg : gO n f = g at hr hs hs2 ⊢
  have k0 : (IntKind.i64.wrap ((m : Int) - (a : Int)) == 1) = false := by rw [wrap_id (by unfold i64; omega)]; simp; omega
  have k3 : (IntKind.i64.wrap ((b : Int) - (m : Int)) == 1) = false := by rw [wrap_id (by unfold i64; omega)]; simp; omega
  have wm := Hid.mk (midA_is a b (by omega))
  have wn : Hid (IntKind.i64.wrap (midA a b + (m : Int)) = (((a + b) / 2 + m : Nat) : Int)) := ⟨i64_nat (by rw [wm.out]; rfl) (by omega)⟩
  have hm1 : a < (a + b) / 2 := by omega
  have hm2 : (a + b) / 2 < b := by omega
  have hm3 : 2 * ((a + b) / 2) ≤ a + b := by omega
  have hm4 : a + b ≤ 2 * ((a + b) / 2) + 1 := by omega
  generalize (a + b) / 2 = mid at wm wn hm1 hm2 hm3 hm4 hmm
  have wp : Hid (IntKind.i64.wrap (IntKind.i64.wrap (midA a b + (m : Int)) - 1) = ((mid + m - 1 : Nat) : Int)) := ⟨by rw [wn.out]; exact i64_nat (by omega) (by omega)⟩
  have hHf : Holds2 n f g := fun q hq => by rw [vG_gO hq (hf q hq), hg]; rfl
  have k4 : decide ((m : Int) > midA a b) = false := by rw [wm.out]; exact decide_eq_false (by omega)
  refine hc_of (ESk_ok hK) mixed (show Tryz.prog.funcs[217]? = some Tryz.f217 from rfl) (Nat.le_of_ble_eq_true rfl) (Nat.le_of_ble_eq_true rfl) ?_
  repeat' (refine BR.mk (fun h => ?_) (fun h => ?_) <;> first | with_reducible exact Bool.noConfusion h | with_reducible exact Bool.noConfusion (k0.symm.trans h) | with_reducible exact Bool.noConfusion (k3.symm.trans h) | with_reducible exact Bool.noConfusion (k4.symm.trans h) | skip)
  all_goals try exact (show (0 : Int) ≤ 1 by decide)
  refine loop_fam (ESk_ok hK) mixed (σ := Nat × Nat) (fun p => a ≤ p.1 ∧ p.1 ≤ p.2 ∧ p.2 ≤ m ∧ (a < p.1 → ¬ compareV (g (mid + m - 1 - (p.1 - 1))) (g (p.1 - 1)) < 0) ∧ (p.2 < m → compareV (g (mid + m - 1 - p.2)) (g p.2) < 0)) (fun p => p.2 - p.1) (a, m) ⟨Nat.le_refl _, by show a ≤ m; omega, Nat.le_refl _, fun h => absurd h (Nat.lt_irrefl _), fun h => absurd h (Nat.lt_irrefl _)⟩ 1 0 [0, 1, 2, 3, 4, 18, 19, 22]
    (fun p => [(20, .int .i64 p.1), (21, .int .i64 p.2)]) [] (fun _ => [(0, .arr 34 3 n (vG g))]) (fun _ => []) ?_ ?_ ?_ ?_
  · rfl
  · rfl
  · refine Wk.mk' rfl rfl trivial ?_ ?_
    repeat' (refine BR.mk (fun _ => ?_) (fun _ => ?_))
    any_goals first | exact trivial | exact Wv.any _ | (refine Wv.int ?_; with_reducible rfl) | (refine Wv.str ?_; with_reducible rfl) | (refine Wv.bool ?_; with_reducible rfl) | refine Wv.int ?_ | refine Wv.str ?_ | refine Wv.bool ?_ | exact Wv.same rfl
    · refine ⟨Nat.le_of_ble_eq_true rfl, .inl ⟨rfl, _, rfl, arr_same (fun j hj => ?_) fun j _ => rfl⟩⟩
      rw [vG_gO hj (hf j hj), hg]
  · rintro ⟨i, j⟩ ⟨hi1, hi2, hi3, hi4, hi5⟩
    simp only at hi1 hi2 hi3 hi4 hi5
    have wc := Hid.mk (midA_is i j (by omega))
    by_cases hij : i < j
    · have k5 : decide (((i : Nat) : Int) < (j : Int)) = true := decide_eq_true (by omega)
      have wx : Hid (0 + (midA i j).toNat = (i + j) / 2) := ⟨by rw [wc.out]; exact toNat0 _⟩
      have wy : Hid (IntKind.i64.wrap (IntKind.i64.wrap (IntKind.i64.wrap (midA a b + (m : Int)) - 1) - midA i j) = ((mid + m - 1 - (i + j) / 2 : Nat) : Int)) := ⟨by rw [wp.out, wc.out]; exact i64_nat (by omega) (by omega)⟩
      by_cases hc : compareV (g (mid + m - 1 - (i + j) / 2)) (g ((i + j) / 2)) < 0
      · have k6 : (!decide (compareV (g (0 + (IntKind.i64.wrap (IntKind.i64.wrap (IntKind.i64.wrap (midA a b + (m : Int)) - 1) - midA i j)).toNat)) (g (0 + (midA i j).toNat)) < 0)) = false := by rw [wx.out, wy.out, toNat0, decide_eq_true hc]; rfl
        repeat' (refine BR.mk (fun h => ?_) (fun h => ?_) <;> first | with_reducible exact Bool.noConfusion h | with_reducible exact Bool.noConfusion (k5.symm.trans h) | with_reducible exact Bool.noConfusion (k6.symm.trans h) | skip)
        · exact (show (0 : Int) ≤ 1 by decide)
        · exact (show commutes _ _ = true by kernel_rfl)
        · exact ⟨⟨by show 0 ≤ IntKind.i64.wrap (IntKind.i64.wrap (IntKind.i64.wrap (midA a b + (m : Int)) - 1) - midA i j); rw [wy.out]; omega, by show IntKind.i64.wrap (IntKind.i64.wrap (IntKind.i64.wrap (midA a b + (m : Int)) - 1) - midA i j) < (n : Int); rw [wy.out]; omega⟩, rfl⟩
        · exact ⟨by show 0 + (IntKind.i64.wrap (IntKind.i64.wrap (IntKind.i64.wrap (midA a b + (m : Int)) - 1) - midA i j)).toNat < n; rw [wy.out]; omega, rfl⟩
        · exact ⟨⟨by show 0 ≤ midA i j; rw [wc.out]; omega, by show midA i j < (n : Int); rw [wc.out]; omega⟩, rfl⟩
        · exact ⟨by show 0 + (midA i j).toNat < n; rw [wx.out]; omega, rfl⟩
        refine Again.fam (i, (i + j) / 2) ⟨hi1, by show i ≤ (i + j) / 2; omega, by show (i + j) / 2 ≤ m; omega, hi4, fun _ => hc⟩ (by show (i + j) / 2 - i < j - i; omega) rfl rfl rfl rfl trivial ?_ ?_
        · repeat' (refine BR.mk (fun _ => ?_) (fun _ => ?_))
          any_goals first | exact trivial | exact Wv.any _ | (refine Wv.int ?_; with_reducible rfl) | (refine Wv.str ?_; with_reducible rfl) | (refine Wv.bool ?_; with_reducible rfl) | refine Wv.int ?_ | refine Wv.str ?_ | refine Wv.bool ?_ | exact Wv.same rfl
          exact wc.out
        · repeat' (refine BR.mk (fun _ => ?_) (fun _ => ?_))
          any_goals first | exact trivial | exact Wv.any _ | (refine Wv.int ?_; with_reducible rfl) | (refine Wv.str ?_; with_reducible rfl) | (refine Wv.bool ?_; with_reducible rfl) | refine Wv.int ?_ | refine Wv.str ?_ | refine Wv.bool ?_ | exact Wv.same rfl
          exact ⟨Nat.le_of_ble_eq_true rfl, .inl ⟨rfl, _, rfl, arr_same (fun j hj => rfl) fun j _ => rfl⟩⟩
      · have k6 : (!decide (compareV (g (0 + (IntKind.i64.wrap (IntKind.i64.wrap (IntKind.i64.wrap (midA a b + (m : Int)) - 1) - midA i j)).toNat)) (g (0 + (midA i j).toNat)) < 0)) = true := by rw [wx.out, wy.out, toNat0, decide_eq_false hc]; rfl
        repeat' (refine BR.mk (fun h => ?_) (fun h => ?_) <;> first | with_reducible exact Bool.noConfusion h | with_reducible exact Bool.noConfusion (k5.symm.trans h) | with_reducible exact Bool.noConfusion (k6.symm.trans h) | skip)
        · exact (show (0 : Int) ≤ 1 by decide)
        · exact (show commutes _ _ = true by kernel_rfl)
        · exact ⟨⟨by show 0 ≤ IntKind.i64.wrap (IntKind.i64.wrap (IntKind.i64.wrap (midA a b + (m : Int)) - 1) - midA i j); rw [wy.out]; omega, by show IntKind.i64.wrap (IntKind.i64.wrap (IntKind.i64.wrap (midA a b + (m : Int)) - 1) - midA i j) < (n : Int); rw [wy.out]; omega⟩, rfl⟩
        · exact ⟨by show 0 + (IntKind.i64.wrap (IntKind.i64.wrap (IntKind.i64.wrap (midA a b + (m : Int)) - 1) - midA i j)).toNat < n; rw [wy.out]; omega, rfl⟩
        · exact ⟨⟨by show 0 ≤ midA i j; rw [wc.out]; omega, by show midA i j < (n : Int); rw [wc.out]; omega⟩, rfl⟩
        · exact ⟨by show 0 + (midA i j).toNat < n; rw [wx.out]; omega, rfl⟩
        refine Again.fam ((i + j) / 2 + 1, j) ⟨by show a ≤ _; omega, by show (i + j) / 2 + 1 ≤ j; omega, hi3, fun _ => by show ¬ compareV (g (mid + m - 1 - ((i + j) / 2 + 1 - 1))) (g ((i + j) / 2 + 1 - 1)) < 0; rw [Nat.add_sub_cancel]; exact hc, hi5⟩ (by show j - ((i + j) / 2 + 1) < j - i; omega) rfl rfl rfl rfl trivial ?_ ?_
        · repeat' (refine BR.mk (fun _ => ?_) (fun _ => ?_))
          any_goals first | exact trivial | exact Wv.any _ | (refine Wv.int ?_; with_reducible rfl) | (refine Wv.str ?_; with_reducible rfl) | (refine Wv.bool ?_; with_reducible rfl) | refine Wv.int ?_ | refine Wv.str ?_ | refine Wv.bool ?_ | exact Wv.same rfl
          exact i64_nat (by show midA i j + 1 = _; rw [wc.out]; rfl) (by show (i + j) / 2 + 1 ≤ _; omega)
        · repeat' (refine BR.mk (fun _ => ?_) (fun _ => ?_))
          any_goals first | exact trivial | exact Wv.any _ | (refine Wv.int ?_; with_reducible rfl) | (refine Wv.str ?_; with_reducible rfl) | (refine Wv.bool ?_; with_reducible rfl) | refine Wv.int ?_ | refine Wv.str ?_ | refine Wv.bool ?_ | exact Wv.same rfl
          exact ⟨Nat.le_of_ble_eq_true rfl, .inl ⟨rfl, _, rfl, arr_same (fun j hj => rfl) fun j _ => rfl⟩⟩
    · have k5 : decide (((i : Nat) : Int) < (j : Int)) = false := decide_eq_false (by omega)
      obtain rfl : i = j := by omega
      have eE : Hid (IntKind.i64.wrap (IntKind.i64.wrap (midA a b + (m : Int)) - (i : Int)) = ((mid + m - i : Nat) : Int)) := ⟨by rw [wn.out]; exact i64_nat (by omega) (by omega)⟩
      have cut : Cut g a m b mid i (mid + m - i) := by
        refine ⟨by omega, by omega, by omega, by omega, by omega, by omega, by omega, fun e1 e2 => ?_, fun e1 e2 => ?_⟩
        · have := hi4 (by omega)
          rwa [show mid + m - 1 - (i - 1) = mid + m - i from by omega] at this
        · have := hi5 (by omega)
          rwa [show mid + m - 1 - i = mid + m - i - 1 from by omega] at this
      obtain ⟨c1, c2, c3, c4⟩ := cut.ss_l hs hs2
      have pr := PG.rot g cut.sm cut.me
      have r1 := pr.rgt (show mid + m - i ≤ n by omega) hr
      have done := cut.done hs hs2 (PG.srt (rotG g i m (mid + m - i)) a mid) (srtG_SS _ a mid) (PG.srt (srtG (rotG g i m (mid + m - i)) a mid) mid b) (srtG_SS _ mid b) (fun q _ h => hr q (by omega))
      have r2 := (PG.srt (rotG g i m (mid + m - i)) a mid).rgt (show mid ≤ n by omega) r1
      have d1 : SS (srtG (rotG g i m (mid + m - i)) a mid) mid (mid + m - i) := c3.congr fun q h5 _ => srtG_out (by omega)
      have d2 : SS (srtG (rotG g i m (mid + m - i)) a mid) (mid + m - i) b := c4.congr fun q h5 _ => srtG_out (by omega)
      have hnoA : ¬(a < i ∧ i < mid) → ∀ q, rotG g i m (mid + m - i) q = srtG (rotG g i m (mid + m - i)) a mid q := fun h q => (PG.refl _ a mid).eq (by
        by_cases e : a < i
        · obtain rfl : i = mid := by omega
          exact c1
        · obtain rfl : a = i := by omega
          exact c2) (fun q _ h5 => r1 q (by omega)) q
      have hnoB : ¬(mid < mid + m - i ∧ mid + m - i < b) → ∀ q, srtG (rotG g i m (mid + m - i)) a mid q = srtG (srtG (rotG g i m (mid + m - i)) a mid) mid b q := fun h q => (PG.refl _ mid b).eq (by
        by_cases e : mid < mid + m - i
        · exact d1.mono (Nat.le_refl _) (by omega)
        · exact d2.mono (by omega) (Nat.le_refl _)) (fun q _ h5 => r2 q (by omega)) q
      have hnoR : ¬(i < m ∧ m < mid + m - i) → ∀ q, g q = rotG g i m (mid + m - i) q := fun h q => by
        by_cases e : i < m
        · rw [show mid + m - i = m from by omega, rotG_none' g i m (by omega) q]
        · rw [show i = m from by omega, rotG_none g m _ q]
      by_cases p1 : i < m
      · skip
        by_cases p3 : a < i
        · by_cases p4 : mid + m - i < b
          · skip
            have q1 : decide ((i : Int) < (m : Int)) = true := decide_eq_true (by omega)
            have q2 : decide ((m : Int) < IntKind.i64.wrap (IntKind.i64.wrap (midA a b + (m : Int)) - (i : Int))) = true := decide_eq_true (by rw [eE.out]; omega)
            have q3 : decide ((a : Int) < (i : Int)) = true := decide_eq_true (by omega)
            have q4 : decide ((i : Int) < midA a b) = true := decide_eq_true (by rw [wm.out]; omega)
            have q5 : decide (midA a b < IntKind.i64.wrap (IntKind.i64.wrap (midA a b + (m : Int)) - (i : Int))) = true := decide_eq_true (by rw [eE.out, wm.out]; omega)
            have q6 : decide (IntKind.i64.wrap (IntKind.i64.wrap (midA a b + (m : Int)) - (i : Int)) < (b : Int)) = true := decide_eq_true (by rw [eE.out]; omega)
            repeat' (refine BR.mk (fun h => ?_) (fun h => ?_) <;> first | with_reducible exact Bool.noConfusion h | with_reducible exact Bool.noConfusion (k5.symm.trans h) | with_reducible exact Bool.noConfusion (q1.symm.trans h) | with_reducible exact Bool.noConfusion (q2.symm.trans h) | with_reducible exact Bool.noConfusion (q3.symm.trans h) | with_reducible exact Bool.noConfusion (q4.symm.trans h) | with_reducible exact Bool.noConfusion (q5.symm.trans h) | with_reducible exact Bool.noConfusion (q6.symm.trans h) | skip)
            · refine ⟨rfl, rfl, ?_, hn, fun _ _ => rfl⟩
              show 0 ≤ (i : Int) ∧ (i : Int) < (m : Int) ∧ (m : Int) < IntKind.i64.wrap (IntKind.i64.wrap (midA a b + (m : Int)) - (i : Int)) ∧ IntKind.i64.wrap (IntKind.i64.wrap (midA a b + (m : Int)) - (i : Int)) ≤ (n : Int)
              rw [eE.out]; omega
            · exact need_sym (Holds2.rot (S := (i : Int)) (M := (m : Int)) (fun q _ => rfl : Holds2 n (vG g) g) rfl rfl eE.out cut.sm cut.me (by omega)) rfl rfl wm.out (by omega) (by omega) (by omega) (by omega) hn r1 c1 c2
            · exact need_sym (Holds2.srt (A := (a : Int)) (Holds2.rot (S := (i : Int)) (M := (m : Int)) (fun q _ => rfl : Holds2 n (vG g) g) rfl rfl eE.out cut.sm cut.me (by omega)) rfl wm.out (by omega)) wm.out eE.out rfl (by omega) (by omega) (by omega) (by omega) hn r2 d1 d2
            · refine Go.Ab.Left.mk (Nat.le_of_ble_eq_true rfl) ⟨[], fun _ _ => rfl, Wv.same rfl, Wk.mk' rfl rfl trivial trivial ?_⟩
              repeat' (refine BR.mk (fun _ => ?_) (fun _ => ?_))
              any_goals first | exact trivial | exact Wv.any _ | (refine Wv.int ?_; with_reducible rfl) | (refine Wv.str ?_; with_reducible rfl) | (refine Wv.bool ?_; with_reducible rfl) | refine Wv.int ?_ | refine Wv.str ?_ | refine Wv.bool ?_ | exact Wv.same rfl
              exact ⟨Nat.le_of_ble_eq_true rfl, .inl ⟨rfl, _, rfl, arr_same (fun q hq => ((Holds2.eq (Holds2.srt (B := (b : Int)) (Holds2.srt (A := (a : Int)) (Holds2.rot (S := (i : Int)) (M := (m : Int)) (fun q _ => rfl : Holds2 n (vG g) g) rfl rfl eE.out cut.sm cut.me (by omega)) rfl wm.out (by omega)) wm.out rfl (by omega)) done) q hq)) fun _ _ => rfl⟩⟩
          · skip
            have q1 : decide ((i : Int) < (m : Int)) = true := decide_eq_true (by omega)
            have q2 : decide ((m : Int) < IntKind.i64.wrap (IntKind.i64.wrap (midA a b + (m : Int)) - (i : Int))) = true := decide_eq_true (by rw [eE.out]; omega)
            have q3 : decide ((a : Int) < (i : Int)) = true := decide_eq_true (by omega)
            have q4 : decide ((i : Int) < midA a b) = true := decide_eq_true (by rw [wm.out]; omega)
            have q5 : decide (midA a b < IntKind.i64.wrap (IntKind.i64.wrap (midA a b + (m : Int)) - (i : Int))) = true := decide_eq_true (by rw [eE.out, wm.out]; omega)
            have q6 : decide (IntKind.i64.wrap (IntKind.i64.wrap (midA a b + (m : Int)) - (i : Int)) < (b : Int)) = false := decide_eq_false (by rw [eE.out]; omega)
            repeat' (refine BR.mk (fun h => ?_) (fun h => ?_) <;> first | with_reducible exact Bool.noConfusion h | with_reducible exact Bool.noConfusion (k5.symm.trans h) | with_reducible exact Bool.noConfusion (q1.symm.trans h) | with_reducible exact Bool.noConfusion (q2.symm.trans h) | with_reducible exact Bool.noConfusion (q3.symm.trans h) | with_reducible exact Bool.noConfusion (q4.symm.trans h) | with_reducible exact Bool.noConfusion (q5.symm.trans h) | with_reducible exact Bool.noConfusion (q6.symm.trans h) | skip)
            · refine ⟨rfl, rfl, ?_, hn, fun _ _ => rfl⟩
              show 0 ≤ (i : Int) ∧ (i : Int) < (m : Int) ∧ (m : Int) < IntKind.i64.wrap (IntKind.i64.wrap (midA a b + (m : Int)) - (i : Int)) ∧ IntKind.i64.wrap (IntKind.i64.wrap (midA a b + (m : Int)) - (i : Int)) ≤ (n : Int)
              rw [eE.out]; omega
            · exact need_sym (Holds2.rot (S := (i : Int)) (M := (m : Int)) (fun q _ => rfl : Holds2 n (vG g) g) rfl rfl eE.out cut.sm cut.me (by omega)) rfl rfl wm.out (by omega) (by omega) (by omega) (by omega) hn r1 c1 c2
            · refine Go.Ab.Left.mk (Nat.le_of_ble_eq_true rfl) ⟨[], fun _ _ => rfl, Wv.same rfl, Wk.mk' rfl rfl trivial trivial ?_⟩
              repeat' (refine BR.mk (fun _ => ?_) (fun _ => ?_))
              any_goals first | exact trivial | exact Wv.any _ | (refine Wv.int ?_; with_reducible rfl) | (refine Wv.str ?_; with_reducible rfl) | (refine Wv.bool ?_; with_reducible rfl) | refine Wv.int ?_ | refine Wv.str ?_ | refine Wv.bool ?_ | exact Wv.same rfl
              exact ⟨Nat.le_of_ble_eq_true rfl, .inl ⟨rfl, _, rfl, arr_same (fun q hq => ((Holds2.eq (Holds2.eq (Holds2.srt (A := (a : Int)) (Holds2.rot (S := (i : Int)) (M := (m : Int)) (fun q _ => rfl : Holds2 n (vG g) g) rfl rfl eE.out cut.sm cut.me (by omega)) rfl wm.out (by omega)) (hnoB (by omega))) done) q hq)) fun _ _ => rfl⟩⟩
        · by_cases p4 : mid + m - i < b
          · skip
            have q1 : decide ((i : Int) < (m : Int)) = true := decide_eq_true (by omega)
            have q2 : decide ((m : Int) < IntKind.i64.wrap (IntKind.i64.wrap (midA a b + (m : Int)) - (i : Int))) = true := decide_eq_true (by rw [eE.out]; omega)
            have q3 : decide ((a : Int) < (i : Int)) = false := decide_eq_false (by omega)
            have q5 : decide (midA a b < IntKind.i64.wrap (IntKind.i64.wrap (midA a b + (m : Int)) - (i : Int))) = true := decide_eq_true (by rw [eE.out, wm.out]; omega)
            have q6 : decide (IntKind.i64.wrap (IntKind.i64.wrap (midA a b + (m : Int)) - (i : Int)) < (b : Int)) = true := decide_eq_true (by rw [eE.out]; omega)
            repeat' (refine BR.mk (fun h => ?_) (fun h => ?_) <;> first | with_reducible exact Bool.noConfusion h | with_reducible exact Bool.noConfusion (k5.symm.trans h) | with_reducible exact Bool.noConfusion (q1.symm.trans h) | with_reducible exact Bool.noConfusion (q2.symm.trans h) | with_reducible exact Bool.noConfusion (q3.symm.trans h) | with_reducible exact Bool.noConfusion (q5.symm.trans h) | with_reducible exact Bool.noConfusion (q6.symm.trans h) | skip)
            · refine ⟨rfl, rfl, ?_, hn, fun _ _ => rfl⟩
              show 0 ≤ (i : Int) ∧ (i : Int) < (m : Int) ∧ (m : Int) < IntKind.i64.wrap (IntKind.i64.wrap (midA a b + (m : Int)) - (i : Int)) ∧ IntKind.i64.wrap (IntKind.i64.wrap (midA a b + (m : Int)) - (i : Int)) ≤ (n : Int)
              rw [eE.out]; omega
            · exact need_sym (Holds2.eq (Holds2.rot (S := (i : Int)) (M := (m : Int)) (fun q _ => rfl : Holds2 n (vG g) g) rfl rfl eE.out cut.sm cut.me (by omega)) (hnoA (by omega))) wm.out eE.out rfl (by omega) (by omega) (by omega) (by omega) hn r2 d1 d2
            · refine Go.Ab.Left.mk (Nat.le_of_ble_eq_true rfl) ⟨[], fun _ _ => rfl, Wv.same rfl, Wk.mk' rfl rfl trivial trivial ?_⟩
              repeat' (refine BR.mk (fun _ => ?_) (fun _ => ?_))
              any_goals first | exact trivial | exact Wv.any _ | (refine Wv.int ?_; with_reducible rfl) | (refine Wv.str ?_; with_reducible rfl) | (refine Wv.bool ?_; with_reducible rfl) | refine Wv.int ?_ | refine Wv.str ?_ | refine Wv.bool ?_ | exact Wv.same rfl
              exact ⟨Nat.le_of_ble_eq_true rfl, .inl ⟨rfl, _, rfl, arr_same (fun q hq => ((Holds2.eq (Holds2.srt (B := (b : Int)) (Holds2.eq (Holds2.rot (S := (i : Int)) (M := (m : Int)) (fun q _ => rfl : Holds2 n (vG g) g) rfl rfl eE.out cut.sm cut.me (by omega)) (hnoA (by omega))) wm.out rfl (by omega)) done) q hq)) fun _ _ => rfl⟩⟩
          · skip
            have q1 : decide ((i : Int) < (m : Int)) = true := decide_eq_true (by omega)
            have q2 : decide ((m : Int) < IntKind.i64.wrap (IntKind.i64.wrap (midA a b + (m : Int)) - (i : Int))) = true := decide_eq_true (by rw [eE.out]; omega)
            have q3 : decide ((a : Int) < (i : Int)) = false := decide_eq_false (by omega)
            have q5 : decide (midA a b < IntKind.i64.wrap (IntKind.i64.wrap (midA a b + (m : Int)) - (i : Int))) = true := decide_eq_true (by rw [eE.out, wm.out]; omega)
            have q6 : decide (IntKind.i64.wrap (IntKind.i64.wrap (midA a b + (m : Int)) - (i : Int)) < (b : Int)) = false := decide_eq_false (by rw [eE.out]; omega)
            repeat' (refine BR.mk (fun h => ?_) (fun h => ?_) <;> first | with_reducible exact Bool.noConfusion h | with_reducible exact Bool.noConfusion (k5.symm.trans h) | with_reducible exact Bool.noConfusion (q1.symm.trans h) | with_reducible exact Bool.noConfusion (q2.symm.trans h) | with_reducible exact Bool.noConfusion (q3.symm.trans h) | with_reducible exact Bool.noConfusion (q5.symm.trans h) | with_reducible exact Bool.noConfusion (q6.symm.trans h) | skip)
            · refine ⟨rfl, rfl, ?_, hn, fun _ _ => rfl⟩
              show 0 ≤ (i : Int) ∧ (i : Int) < (m : Int) ∧ (m : Int) < IntKind.i64.wrap (IntKind.i64.wrap (midA a b + (m : Int)) - (i : Int)) ∧ IntKind.i64.wrap (IntKind.i64.wrap (midA a b + (m : Int)) - (i : Int)) ≤ (n : Int)
              rw [eE.out]; omega
            · refine Go.Ab.Left.mk (Nat.le_of_ble_eq_true rfl) ⟨[], fun _ _ => rfl, Wv.same rfl, Wk.mk' rfl rfl trivial trivial ?_⟩
              repeat' (refine BR.mk (fun _ => ?_) (fun _ => ?_))
              any_goals first | exact trivial | exact Wv.any _ | (refine Wv.int ?_; with_reducible rfl) | (refine Wv.str ?_; with_reducible rfl) | (refine Wv.bool ?_; with_reducible rfl) | refine Wv.int ?_ | refine Wv.str ?_ | refine Wv.bool ?_ | exact Wv.same rfl
              exact ⟨Nat.le_of_ble_eq_true rfl, .inl ⟨rfl, _, rfl, arr_same (fun q hq => ((Holds2.eq (Holds2.eq (Holds2.eq (Holds2.rot (S := (i : Int)) (M := (m : Int)) (fun q _ => rfl : Holds2 n (vG g) g) rfl rfl eE.out cut.sm cut.me (by omega)) (hnoA (by omega))) (hnoB (by omega))) done) q hq)) fun _ _ => rfl⟩⟩
      · by_cases p2 : i < mid
        · skip
          have q1 : decide ((i : Int) < (m : Int)) = false := decide_eq_false (by omega)
          have q3 : decide ((a : Int) < (i : Int)) = true := decide_eq_true (by omega)
          have q4 : decide ((i : Int) < midA a b) = true := decide_eq_true (by rw [wm.out]; omega)
          have q5 : decide (midA a b < IntKind.i64.wrap (IntKind.i64.wrap (midA a b + (m : Int)) - (i : Int))) = false := decide_eq_false (by rw [eE.out, wm.out]; omega)
          repeat' (refine BR.mk (fun h => ?_) (fun h => ?_) <;> first | with_reducible exact Bool.noConfusion h | with_reducible exact Bool.noConfusion (k5.symm.trans h) | with_reducible exact Bool.noConfusion (q1.symm.trans h) | with_reducible exact Bool.noConfusion (q3.symm.trans h) | with_reducible exact Bool.noConfusion (q4.symm.trans h) | with_reducible exact Bool.noConfusion (q5.symm.trans h) | skip)
          · exact need_sym (Holds2.eq (fun q _ => rfl : Holds2 n (vG g) g) (hnoR (by omega))) rfl rfl wm.out (by omega) (by omega) (by omega) (by omega) hn r1 c1 c2
          · refine Go.Ab.Left.mk (Nat.le_of_ble_eq_true rfl) ⟨[], fun _ _ => rfl, Wv.same rfl, Wk.mk' rfl rfl trivial trivial ?_⟩
            repeat' (refine BR.mk (fun _ => ?_) (fun _ => ?_))
            any_goals first | exact trivial | exact Wv.any _ | (refine Wv.int ?_; with_reducible rfl) | (refine Wv.str ?_; with_reducible rfl) | (refine Wv.bool ?_; with_reducible rfl) | refine Wv.int ?_ | refine Wv.str ?_ | refine Wv.bool ?_ | exact Wv.same rfl
            exact ⟨Nat.le_of_ble_eq_true rfl, .inl ⟨rfl, _, rfl, arr_same (fun q hq => ((Holds2.eq (Holds2.eq (Holds2.srt (A := (a : Int)) (Holds2.eq (fun q _ => rfl : Holds2 n (vG g) g) (hnoR (by omega))) rfl wm.out (by omega)) (hnoB (by omega))) done) q hq)) fun _ _ => rfl⟩⟩
        · skip
          have q1 : decide ((i : Int) < (m : Int)) = false := decide_eq_false (by omega)
          have q3 : decide ((a : Int) < (i : Int)) = true := decide_eq_true (by omega)
          have q4 : decide ((i : Int) < midA a b) = false := decide_eq_false (by rw [wm.out]; omega)
          have q5 : decide (midA a b < IntKind.i64.wrap (IntKind.i64.wrap (midA a b + (m : Int)) - (i : Int))) = false := decide_eq_false (by rw [eE.out, wm.out]; omega)
          repeat' (refine BR.mk (fun h => ?_) (fun h => ?_) <;> first | with_reducible exact Bool.noConfusion h | with_reducible exact Bool.noConfusion (k5.symm.trans h) | with_reducible exact Bool.noConfusion (q1.symm.trans h) | with_reducible exact Bool.noConfusion (q3.symm.trans h) | with_reducible exact Bool.noConfusion (q4.symm.trans h) | with_reducible exact Bool.noConfusion (q5.symm.trans h) | skip)
          · refine Go.Ab.Left.mk (Nat.le_of_ble_eq_true rfl) ⟨[], fun _ _ => rfl, Wv.same rfl, Wk.mk' rfl rfl trivial trivial ?_⟩
            repeat' (refine BR.mk (fun _ => ?_) (fun _ => ?_))
            any_goals first | exact trivial | exact Wv.any _ | (refine Wv.int ?_; with_reducible rfl) | (refine Wv.str ?_; with_reducible rfl) | (refine Wv.bool ?_; with_reducible rfl) | refine Wv.int ?_ | refine Wv.str ?_ | refine Wv.bool ?_ | exact Wv.same rfl
            exact ⟨Nat.le_of_ble_eq_true rfl, .inl ⟨rfl, _, rfl, arr_same (fun q hq => ((Holds2.eq (Holds2.eq (Holds2.eq (Holds2.eq (fun q _ => rfl : Holds2 n (vG g) g) (hnoR (by omega))) (hnoA (by omega))) (hnoB (by omega))) done) q hq)) fun _ _ => rfl⟩⟩

set_option smartUnfolding false in
theorem hc_sym_b (n : Nat) (f : Nat → AV) (a m : Nat) (h1 : a + 1 < m) (h2 : m + 1 ≤ n) (hn : n ≤ 1000000000) (hf : ∀ i, i < n → isV (f i) = true) (hr : ∀ q, q < n → right (gO n f q) = true) (hs : SS (gO n f) a m) :
    HC Tryz.prog GV 217 [.hs 0 0 n 3 none, .int .i64 a, .int .i64 m, .int .i64 ((m + 1 : Nat) : Int), .clo 53 [] []] (St.small [.arr 34 3 n f] []) (.tup []) (rowG n (srtG (gO n f) a (m + 1))) := by
  generalize hg : gO n f = g at hr hs ⊢
  have k0 : (IntKind.i64.wrap ((m : Int) - (a : Int)) == 1) = false := by rw [wrap_id (by unfold i64; omega)]; simp; omega
  have k3 : (IntKind.i64.wrap (((m + 1 : Nat) : Int) - (m : Int)) == 1) = true := by rw [wrap_id (by unfold i64; omega)]; simp; omega
  refine hc_of ES2_ok mixed (show Tryz.prog.funcs[217]? = some Tryz.f217 from rfl) (Nat.le_of_ble_eq_true rfl) (Nat.le_of_ble_eq_true rfl) ?_
  repeat' (refine BR.mk (fun h => ?_) (fun h => ?_) <;> first | with_reducible exact Bool.noConfusion h | with_reducible exact Bool.noConfusion (k0.symm.trans h) | with_reducible exact Bool.noConfusion (k3.symm.trans h) | skip)
  refine loop_fam ES2_ok mixed (σ := Nat × Nat) (fun p => a ≤ p.1 ∧ p.1 ≤ p.2 ∧ p.2 ≤ m ∧ (a < p.1 → ¬ compareV (g m) (g (p.1 - 1)) < 0) ∧ (p.2 < m → compareV (g m) (g p.2) < 0)) (fun p => p.2 - p.1) (a, m) ⟨Nat.le_refl _, Nat.le_of_lt (Nat.lt_of_succ_lt h1), Nat.le_refl _, fun h => absurd h (Nat.lt_irrefl _), fun h => absurd h (Nat.lt_irrefl _)⟩ 1 0 [0, 1, 2, 3, 4]
    (fun p => [(14, .int .i64 p.1), (15, .int .i64 p.2)]) [] (fun _ => [(0, .arr 34 3 n (vG g))]) (fun _ => []) ?_ ?_ ?_ ?_
  · rfl
  · rfl
  · refine Wk.mk' rfl rfl trivial ?_ ?_
    repeat' (refine BR.mk (fun _ => ?_) (fun _ => ?_))
    any_goals first | exact trivial | exact Wv.any _ | (refine Wv.int ?_; with_reducible rfl) | (refine Wv.str ?_; with_reducible rfl) | (refine Wv.bool ?_; with_reducible rfl) | refine Wv.int ?_ | refine Wv.str ?_ | refine Wv.bool ?_ | exact Wv.same rfl
    · refine ⟨Nat.le_of_ble_eq_true rfl, .inl ⟨rfl, _, rfl, arr_same (fun j hj => ?_) fun j _ => rfl⟩⟩
      rw [vG_gO hj (hf j hj), hg]
  · rintro ⟨i, j⟩ ⟨hi1, hi2, hi3, hi4, hi5⟩
    simp only at hi1 hi2 hi3 hi4 hi5
    have wm := Hid.mk (midA_is i j (by omega))
    by_cases hij : i < j
    · have k1 : decide (((i : Nat) : Int) < (j : Int)) = true := decide_eq_true (by omega)
      have wx : Hid (0 + (midA i j).toNat = (i + j) / 2) := ⟨by rw [wm.out]; exact toNat0 _⟩
      by_cases hc : compareV (g m) (g ((i + j) / 2)) < 0
      · have k2 : (!decide (compareV (g (0 + ((m : Int)).toNat)) (g (0 + (midA i j).toNat)) < 0)) = false := by rw [wx.out, toNat0, decide_eq_true hc]; rfl
        repeat' (refine BR.mk (fun h => ?_) (fun h => ?_) <;> first | with_reducible exact Bool.noConfusion h | with_reducible exact Bool.noConfusion (k1.symm.trans h) | with_reducible exact Bool.noConfusion (k2.symm.trans h) | skip)
        · exact (show (0 : Int) ≤ 1 by decide)
        · exact (show commutes _ _ = true by kernel_rfl)
        · exact ⟨⟨by omega, by omega⟩, rfl⟩
        · exact ⟨by omega, rfl⟩
        · exact ⟨⟨by show 0 ≤ midA i j; rw [wm.out]; omega, by show midA i j < (n : Int); rw [wm.out]; omega⟩, rfl⟩
        · exact ⟨by show 0 + (midA i j).toNat < n; rw [wx.out]; omega, rfl⟩
        refine Again.fam (i, (i + j) / 2) ⟨hi1, by show i ≤ (i + j) / 2; omega, by show (i + j) / 2 ≤ m; omega, hi4, fun _ => hc⟩ (by show (i + j) / 2 - i < j - i; omega) rfl rfl rfl rfl trivial ?_ ?_
        · repeat' (refine BR.mk (fun _ => ?_) (fun _ => ?_))
          any_goals first | exact trivial | exact Wv.any _ | (refine Wv.int ?_; with_reducible rfl) | (refine Wv.str ?_; with_reducible rfl) | (refine Wv.bool ?_; with_reducible rfl) | refine Wv.int ?_ | refine Wv.str ?_ | refine Wv.bool ?_ | exact Wv.same rfl
          exact wm.out
        · repeat' (refine BR.mk (fun _ => ?_) (fun _ => ?_))
          any_goals first | exact trivial | exact Wv.any _ | (refine Wv.int ?_; with_reducible rfl) | (refine Wv.str ?_; with_reducible rfl) | (refine Wv.bool ?_; with_reducible rfl) | refine Wv.int ?_ | refine Wv.str ?_ | refine Wv.bool ?_ | exact Wv.same rfl
          exact ⟨Nat.le_of_ble_eq_true rfl, .inl ⟨rfl, _, rfl, arr_same (fun j hj => rfl) fun j _ => rfl⟩⟩
      · have k2 : (!decide (compareV (g (0 + ((m : Int)).toNat)) (g (0 + (midA i j).toNat)) < 0)) = true := by rw [wx.out, toNat0, decide_eq_false hc]; rfl
        repeat' (refine BR.mk (fun h => ?_) (fun h => ?_) <;> first | with_reducible exact Bool.noConfusion h | with_reducible exact Bool.noConfusion (k1.symm.trans h) | with_reducible exact Bool.noConfusion (k2.symm.trans h) | skip)
        · exact (show (0 : Int) ≤ 1 by decide)
        · exact (show commutes _ _ = true by kernel_rfl)
        · exact ⟨⟨by omega, by omega⟩, rfl⟩
        · exact ⟨by omega, rfl⟩
        · exact ⟨⟨by show 0 ≤ midA i j; rw [wm.out]; omega, by show midA i j < (n : Int); rw [wm.out]; omega⟩, rfl⟩
        · exact ⟨by show 0 + (midA i j).toNat < n; rw [wx.out]; omega, rfl⟩
        refine Again.fam ((i + j) / 2 + 1, j) ⟨by show a ≤ _; omega, by show (i + j) / 2 + 1 ≤ j; omega, hi3, fun _ => by show ¬ compareV (g m) (g ((i + j) / 2 + 1 - 1)) < 0; rw [Nat.add_sub_cancel]; exact hc, hi5⟩ (by show j - ((i + j) / 2 + 1) < j - i; omega) rfl rfl rfl rfl trivial ?_ ?_
        · repeat' (refine BR.mk (fun _ => ?_) (fun _ => ?_))
          any_goals first | exact trivial | exact Wv.any _ | (refine Wv.int ?_; with_reducible rfl) | (refine Wv.str ?_; with_reducible rfl) | (refine Wv.bool ?_; with_reducible rfl) | refine Wv.int ?_ | refine Wv.str ?_ | refine Wv.bool ?_ | exact Wv.same rfl
          exact i64_nat (by show midA i j + 1 = _; rw [wm.out]; rfl) (by show (i + j) / 2 + 1 ≤ _; omega)
        · repeat' (refine BR.mk (fun _ => ?_) (fun _ => ?_))
          any_goals first | exact trivial | exact Wv.any _ | (refine Wv.int ?_; with_reducible rfl) | (refine Wv.str ?_; with_reducible rfl) | (refine Wv.bool ?_; with_reducible rfl) | refine Wv.int ?_ | refine Wv.str ?_ | refine Wv.bool ?_ | exact Wv.same rfl
          exact ⟨Nat.le_of_ble_eq_true rfl, .inl ⟨rfl, _, rfl, arr_same (fun j hj => rfl) fun j _ => rfl⟩⟩
    · have k1 : decide (((i : Nat) : Int) < (j : Int)) = false := decide_eq_false (by omega)
      obtain rfl : i = j := by omega
      repeat' (refine BR.mk (fun h => ?_) (fun h => ?_) <;> first | with_reducible exact Bool.noConfusion h | with_reducible exact Bool.noConfusion (k1.symm.trans h) | skip)
      refine loop_fam ES2_ok mixed (σ := Nat) (fun k => i ≤ k ∧ k ≤ m) (fun k => k) m ⟨hi3, Nat.le_refl _⟩ 1 0 [0, 1, 2, 3, 4, 14] (fun k => [(17, .int .i64 k)]) [] (fun k => [(0, .arr 34 3 n (vG (rotG g k m (m + 1))))]) (fun _ => []) ?_ ?_ ?_ ?_
      · rfl
      · rfl
      · refine Wk.mk' rfl rfl trivial ?_ ?_
        repeat' (refine BR.mk (fun _ => ?_) (fun _ => ?_))
        any_goals first | exact trivial | exact Wv.any _ | (refine Wv.int ?_; with_reducible rfl) | (refine Wv.str ?_; with_reducible rfl) | (refine Wv.bool ?_; with_reducible rfl) | refine Wv.int ?_ | refine Wv.str ?_ | refine Wv.bool ?_ | exact Wv.same rfl
        · refine ⟨Nat.le_of_ble_eq_true rfl, .inl ⟨rfl, _, rfl, arr_same (fun q hq => ?_) fun j _ => rfl⟩⟩
          exact (congrArg encV (rotG_none g m (m + 1) q)).symm
      · rintro k ⟨hk1, hk2⟩
        by_cases hki : i < k
        · have u1 : IntKind.i64.wrap ((k : Int) - 1) = ((k - 1 : Nat) : Int) := i64_nat (by omega) (by omega)
          have k2 : decide (((k : Nat) : Int) > (i : Int)) = true := decide_eq_true (by omega)
          repeat' (refine BR.mk (fun h => ?_) (fun h => ?_) <;> first | with_reducible exact Bool.noConfusion h | with_reducible exact Bool.noConfusion (k2.symm.trans h) | skip)
          all_goals try exact (show commutes _ _ = true by kernel_rfl)
          all_goals try ((try dsimp only); (first | rw [u1] | skip); first | exact ⟨⟨by omega, by omega⟩, rfl⟩ | exact ⟨by omega, rfl⟩)
          refine Again.fam (k - 1) ⟨by show i ≤ k - 1; omega, by show k - 1 ≤ m; omega⟩ (by show k - 1 < k; omega) rfl rfl rfl rfl trivial ?_ ?_
          · repeat' (refine BR.mk (fun _ => ?_) (fun _ => ?_))
            any_goals first | exact trivial | exact Wv.any _ | (refine Wv.int ?_; with_reducible rfl) | (refine Wv.str ?_; with_reducible rfl) | (refine Wv.bool ?_; with_reducible rfl) | refine Wv.int ?_ | refine Wv.str ?_ | refine Wv.bool ?_ | exact Wv.same rfl
            exact u1
          · repeat' (refine BR.mk (fun _ => ?_) (fun _ => ?_))
            any_goals first | exact trivial | exact Wv.any _ | (refine Wv.int ?_; with_reducible rfl) | (refine Wv.str ?_; with_reducible rfl) | (refine Wv.bool ?_; with_reducible rfl) | refine Wv.int ?_ | refine Wv.str ?_ | refine Wv.bool ?_ | exact Wv.same rfl
            refine ⟨Nat.le_of_ble_eq_true rfl, .inl ⟨rfl, _, rfl, arr_same (fun q hq => ?_) fun _ _ => rfl⟩⟩
            refine Eq.trans ?_ ((upd_swG (rotG g k m (m + 1)) k (k - 1) q).trans (congrArg encV (rot_down g k m (by omega) hk2 q)))
            show upd (upd (vG (rotG g k m (m + 1))) (0 + ((k : Int)).toNat) (encV (rotG g k m (m + 1) (0 + (IntKind.i64.wrap ((k : Int) - 1)).toNat)))) (0 + (IntKind.i64.wrap ((k : Int) - 1)).toNat) (encV (rotG g k m (m + 1) (0 + ((k : Int)).toNat))) q = _
            rw [u1, toNat0, toNat0]
        · have k2 : decide (((k : Nat) : Int) > (i : Int)) = false := decide_eq_false (by omega)
          obtain rfl : i = k := by omega
          repeat' (refine BR.mk (fun h => ?_) (fun h => ?_) <;> first | with_reducible exact Bool.noConfusion h | with_reducible exact Bool.noConfusion (k2.symm.trans h) | skip)
          refine Go.Ab.Left.mk (Nat.le_of_ble_eq_true rfl) ⟨[], fun _ _ => rfl, Wv.same rfl, Wk.mk' rfl rfl trivial trivial ?_⟩
          repeat' (refine BR.mk (fun _ => ?_) (fun _ => ?_))
          any_goals first | exact trivial | exact Wv.any _ | (refine Wv.int ?_; with_reducible rfl) | (refine Wv.str ?_; with_reducible rfl) | (refine Wv.bool ?_; with_reducible rfl) | refine Wv.int ?_ | refine Wv.str ?_ | refine Wv.bool ?_ | exact Wv.same rfl
          refine ⟨Nat.le_of_ble_eq_true rfl, .inl ⟨rfl, _, rfl, arr_same (fun q hq => ?_) fun _ _ => rfl⟩⟩
          exact congrArg encV (PG.eq ((PG.rot g hi3 (Nat.le_succ m)).mono hi1 (by omega) (Nat.le_refl _)) (one_right hi1 hi3 hs hi4 hi5) (fun q _ h => hr q (by omega)) q)

theorem symC : ∀ K, SymC K
  | 0 => fun n f a m b h1 h2 h3 h4 => by omega
  | K + 1 => fun n f a m b h1 h2 h3 h4 hn hf hr s1 s2 => by
    by_cases e1 : m = a + 1
    · subst e1
      exact hc_sym_a n f a b h2 h3 hn hf hr s2
    · by_cases e2 : b = m + 1
      · subst e2
        exact hc_sym_b n f a m (by omega) h3 hn hf hr s1
      · by_cases hmm : m > (a + b) / 2
        · exact hc_sym_c1 (symC K) n f a m b (by omega) (by omega) h3 h4 hn hf hr s1 s2 hmm
        · exact hc_sym_c2 (symC K) n f a m b (by omega) (by omega) h3 h4 hn hf hr s1 s2 hmm
/-- merged, whatever the length -/
noncomputable def ES3 : Env := ESk 1000000000
theorem ES3_ok : EnvOk Tryz.prog ES3 := ESk_ok (symC _)

theorem seg_list (l : List V) (a b : Nat) (hb : b ≤ l.length) : seg (fun j => l.getD j null) a b = (l.drop a).take (b - a) := by
  refine List.ext_getElem? fun i => ?_
  by_cases h : i < b - a
  · rw [seg_get h, List.getElem?_take, if_pos h, List.getElem?_drop, List.getD_eq_getElem?_getD, List.getElem?_eq_getElem (by omega)]
    rfl
  · rw [List.getElem?_eq_none (by rw [seg_length]; omega), List.getElem?_eq_none (by rw [List.length_take]; omega)]
theorem seg_srt (l : List V) (a b : Nat) (h1 : a ≤ b) (hb : b ≤ l.length) (q : Nat) : (segSort l a b).getD q null = srtG (fun j => l.getD j null) a b q := by
  have hl : (sortV ((l.drop a).take (b - a))).length = b - a := by rw [sort_len, List.length_take, List.length_drop]; omega
  have hp : (l.take a).length = a := by rw [List.length_take]; omega
  unfold srtG
  rw [seg_list l a b hb]
  unfold segSort
  rw [List.getD_eq_getElem?_getD]
  by_cases h : q < a
  · rw [if_neg (by omega), List.getElem?_append_left (by omega), List.getElem?_take, if_pos h]; rfl
  · rw [List.getElem?_append_right (by omega), hp]
    by_cases h2 : q < b
    · rw [if_pos ⟨by omega, h2⟩, List.getElem?_append_left (by omega), List.getD_eq_getElem?_getD]
    · rw [if_neg (by omega), List.getElem?_append_right (by omega), hl, List.getElem?_drop, show b + (q - a - (b - a)) = q from by omega]; rfl
theorem rowOf_seg (n : Nat) (f : Nat → AV) (a b : Nat) (h1 : a ≤ b) (hb : b ≤ n) : rowOf (segSort (lO n f) a b) = rowG n (srtG (gO n f) a b) := by
  unfold rowOf rowG
  rw [seg_len _ a b h1 (by rw [lO_len]; exact hb), lO_len]
  have : vF (segSort (lO n f) a b) = vG (srtG (gO n f) a b) := funext fun q => congrArg encV (seg_srt (lO n f) a b h1 (by rw [lO_len]; exact hb) q)
  rw [this]
theorem rowG_all (n : Nat) (f : Nat → AV) : rowG n (srtG (gO n f) 0 n) = rowOf (sortV (lO n f)) := by
  rw [← rowOf_seg n f 0 n (Nat.zero_le _) (Nat.le_refl _)]
  have e : segSort (lO n f) 0 n = sortV (lO n f) := by
    have h := lO_len n f
    unfold segSort
    rw [List.take_zero, List.drop_zero, Nat.sub_zero, List.take_of_length_le (by omega), List.drop_of_length_le (by omega), List.nil_append, List.append_nil]
  rw [e]
noncomputable def h_insG : List AV → St → Res
  | [.hs i 0 n 3 none, .int .i64 a, .int .i64 b, .clo c [] []], m => match m.h i with
    | some (.arr T 3 n' f) => @Res.need (T = 34 ∧ n' = n ∧ c = 53 ∧ (0 ≤ a ∧ a ≤ b ∧ b ≤ n) ∧ n ≤ 1000000000 ∧ (∀ q, q < n → isV (f q) = true) ∧ ∀ q, q < n → right (gO n f q) = true) (Classical.propDecidable _) (.tup [])
        (m.within (St.small [.arr 34 3 n f] []) (rowG n (srtG (gO n f) a.toNat b.toNat)) [i] [])
    | _ => .fail
  | _, _ => .fail
theorem rgt_list {n : Nat} {f : Nat → AV} (h : ∀ q, q < n → right (gO n f q) = true) : ∀ x ∈ lO n f, right x = true := fun x hx => by
  obtain ⟨i, hi, e⟩ := List.getElem_of_mem hx
  have := h i (by rwa [lO_len] at hi)
  unfold gO at this
  rwa [List.getD_eq_getElem?_getD, List.getElem?_eq_getElem hi, Option.getD_some, e] at this
theorem h_insG_ok (xs : List AV) (m : St) : HRok Tryz.prog GV 216 xs m (h_insG xs m) := by
  unfold h_insG
  split
  · rename_i i n a b c
    split
    · rename_i T n' f hi
      rintro ⟨rfl, rfl, rfl, ⟨h1, h2, h3⟩, hn, hf, hr⟩
      obtain ⟨x, rfl⟩ := Int.eq_ofNat_of_zero_le h1
      obtain ⟨y, rfl⟩ := Int.eq_ofNat_of_zero_le (Int.le_trans h1 h2)
      have hc := hc_ins n' f x y (by omega) (by omega) hn hf (rgt_list hr)
      rw [rowOf_seg n' f x y (by omega) (by omega)] at hc
      exact hc_small hc [i] [] (Nat.le_of_ble_eq_true rfl) (Nat.le_refl _) rfl (by simp) (by simp) ⟨⟨fun j hj => under_V (hf j hj), _, hi, fits_V hf⟩, trivial⟩ trivial
    · trivial
  · trivial
noncomputable def ES4 : Env := ES3.addH 216 h_insG
theorem ES4_ok : EnvOk Tryz.prog ES4 := Env.addH_ok ES3_ok (by kernel_rfl) h_insG_ok
theorem need_ins {n : Nat} {f : Nat → AV} {v : Nat → V} {a b : Nat} {A B : Int} (hv : Holds2 n f v) (hA : A = a) (hB : B = b) (h1 : a ≤ b) (h2 : b ≤ n) (hn : n ≤ 1000000000) (hr : ∀ q, q < n → right (v q) = true) :
    34 = 34 ∧ n = n ∧ 53 = 53 ∧ (0 ≤ A ∧ A ≤ B ∧ B ≤ n) ∧ n ≤ 1000000000 ∧ (∀ q, q < n → isV (f q) = true) ∧ (∀ q, q < n → right (gO n f q) = true) :=
  ⟨rfl, rfl, rfl, by omega, hn, fun q hq => by rw [hv q hq]; rfl, fun q hq => by rw [hv.gv hq]; exact hr q hq⟩
theorem Blks.zero (h : Nat → V) (c : Nat) (hc : 0 < c) : Blks h c 0 := Blks.none h c hc
set_option smartUnfolding false in
theorem hc_stable0 (n : Nat) (f : Nat → AV) (hn : n ≤ 400000000) (hf : ∀ i, i < n → isV (f i) = true) (hr0 : ∀ x ∈ lO n f, right x = true) :
    HC Tryz.prog GV 200 [.hs 0 0 n 3 none, .int .i64 n, .clo 53 [] []] (St.small [.arr 34 3 n f] []) (.tup []) (rowG n (srtG (gO n f) 0 n)) := by
  have hr := gO_rgt hr0
  generalize hg : gO n f = g at hr ⊢
  have hHf : Holds2 n f g := fun q hq => by rw [vG_gO hq (hf q hq), hg]; rfl
  refine hc_of ES4_ok mixed (show Tryz.prog.funcs[200]? = some Tryz.f200 from rfl) (Nat.le_of_ble_eq_true rfl) (Nat.le_of_ble_eq_true rfl) ?_
  refine loop_fam ES4_ok mixed (σ := Nat × (Nat → V)) (fun p => p.1 ≤ n ∧ 20 ∣ p.1 ∧ PG g p.2 0 n ∧ Blks p.2 20 p.1) (fun p => n - p.1) (0, g) ⟨Nat.zero_le _, ⟨0, rfl⟩, PG.refl _ _ _, Blks.none _ _ (by decide)⟩ 1 0 [0, 1, 2, 6] (fun p => [(7, .int .i64 p.1), (8, .int .i64 ((p.1 + 20 : Nat) : Int))]) [] (fun p => [(0, .arr 34 3 n (vG p.2))]) (fun _ => []) ?_ ?_ ?_ ?_
  · rfl
  · rfl
  · refine Wk.mk' rfl rfl trivial ?_ ?_
    repeat' (refine BR.mk (fun _ => ?_) (fun _ => ?_))
    any_goals first | exact trivial | exact Wv.any _ | (refine Wv.int ?_; with_reducible rfl) | (refine Wv.str ?_; with_reducible rfl) | (refine Wv.bool ?_; with_reducible rfl) | refine Wv.int ?_ | refine Wv.str ?_ | refine Wv.bool ?_ | exact Wv.same rfl
    · rfl
    · rfl
    · exact ⟨Nat.le_of_ble_eq_true rfl, .inl ⟨rfl, _, rfl, arr_same (fun j hj => hHf j hj) fun j _ => rfl⟩⟩
  · rintro ⟨a, v⟩ ⟨ha1, ha2, hp, hb⟩
    simp only at ha1 ha2 hp hb
    have hrv := hp.rgt (Nat.le_refl _) hr
    have hv0 : Holds2 n (vG v) v := fun q _ => rfl
    by_cases han : a + 20 ≤ n
    · have k1 : decide (((a + 20 : Nat) : Int) ≤ (n : Int)) = true := decide_eq_true (by omega)
      repeat' (refine BR.mk (fun h => ?_) (fun h => ?_) <;> first | with_reducible exact Bool.noConfusion h | with_reducible exact Bool.noConfusion (k1.symm.trans h) | skip)
      · exact need_ins hv0 rfl rfl (by omega) han (by omega) hrv
      · refine Again.fam (a + 20, srtG v a (a + 20)) ⟨han, Nat.dvd_add ha2 (Nat.dvd_refl 20), hp.trans ((PG.srt v a (a + 20)).mono (Nat.zero_le _) (by omega) han), hb.step (by decide) ha2⟩ (by show n - (a + 20) < n - a; omega) rfl rfl rfl rfl trivial ?_ ?_
        · repeat' (refine BR.mk (fun _ => ?_) (fun _ => ?_))
          any_goals first | exact trivial | exact Wv.any _ | (refine Wv.int ?_; with_reducible rfl) | (refine Wv.str ?_; with_reducible rfl) | (refine Wv.bool ?_; with_reducible rfl) | refine Wv.int ?_ | refine Wv.str ?_ | refine Wv.bool ?_ | exact Wv.same rfl
          exact i64_nat (by show ((a + 20 : Nat) : Int) + 20 = ((a + 20 + 20 : Nat) : Int); omega) (by show a + 20 + 20 ≤ _; omega)
        · repeat' (refine BR.mk (fun _ => ?_) (fun _ => ?_))
          any_goals first | exact trivial | exact Wv.any _ | (refine Wv.int ?_; with_reducible rfl) | (refine Wv.str ?_; with_reducible rfl) | (refine Wv.bool ?_; with_reducible rfl) | refine Wv.int ?_ | refine Wv.str ?_ | refine Wv.bool ?_ | exact Wv.same rfl
          exact ⟨Nat.le_of_ble_eq_true rfl, .inl ⟨rfl, _, rfl, arr_same (fun q hq => (hv0.srt (A := (a : Int)) (B := ((a + 20 : Nat) : Int)) rfl rfl han) q hq) fun _ _ => rfl⟩⟩
    · have k1 : decide (((a + 20 : Nat) : Int) ≤ (n : Int)) = false := decide_eq_false (by omega)
      repeat' (refine BR.mk (fun h => ?_) (fun h => ?_) <;> first | with_reducible exact Bool.noConfusion h | with_reducible exact Bool.noConfusion (k1.symm.trans h) | skip)
      · exact need_ins hv0 rfl rfl ha1 (Nat.le_refl _) (by omega) hrv
      · have hR : Rest (srtG v a n) 20 0 n := hb.last (by decide) ha2 ha1 (by omega) (srtG_SS v a n) fun q h => srtG_out (by omega)
        have hP : PG g (srtG v a n) 0 n := hp.trans ((PG.srt v a n).mono (Nat.zero_le _) ha1 (Nat.le_refl _))
        refine loop_fam ES4_ok mixed (σ := Nat × (Nat → V)) (fun p => 0 < p.1 ∧ p.1 ≤ 2 * n + 40 ∧ PG g p.2 0 n ∧ Rest p.2 p.1 0 n) (fun p => n - p.1) (20, srtG v a n) ⟨by show 0 < 20; omega, by show 20 ≤ _; omega, hP, hR⟩ 1 0 [0, 1, 2] (fun p => [(6, .int .i64 p.1)]) [] (fun p => [(0, .arr 34 3 n (vG p.2))]) (fun _ => []) ?_ ?_ ?_ ?_
        · rfl
        · rfl
        · refine Wk.mk' rfl rfl trivial ?_ ?_
          repeat' (refine BR.mk (fun _ => ?_) (fun _ => ?_))
          any_goals first | exact trivial | exact Wv.any _ | (refine Wv.int ?_; with_reducible rfl) | (refine Wv.str ?_; with_reducible rfl) | (refine Wv.bool ?_; with_reducible rfl) | refine Wv.int ?_ | refine Wv.str ?_ | refine Wv.bool ?_ | exact Wv.same rfl
          · rfl
          · exact ⟨Nat.le_of_ble_eq_true rfl, .inl ⟨rfl, _, rfl, arr_same (fun q hq => (hv0.srt (A := (a : Int)) (B := (n : Int)) rfl rfl (Nat.le_refl _)) q hq) fun _ _ => rfl⟩⟩
        · clear hb hp hrv hv0 hP hR k1
          rintro ⟨c, u⟩ ⟨hc0, hc1, hp, hb⟩
          simp only at hc0 hc1 hp hb
          have hrv := hp.rgt (Nat.le_refl _) hr
          have hv0 : Holds2 n (vG u) u := fun q _ => rfl
          by_cases hcn : c < n
          · have k2 : decide ((c : Int) < (n : Int)) = true := decide_eq_true (by omega)
            have w2 : IntKind.i64.wrap (2 * (c : Int)) = ((2 * c : Nat) : Int) := i64_nat (by omega) (by omega)
            have w3 : IntKind.i64.wrap ((c : Int) * 2) = ((2 * c : Nat) : Int) := i64_nat (by omega) (by omega)
            repeat' (refine BR.mk (fun h => ?_) (fun h => ?_) <;> first | with_reducible exact Bool.noConfusion h | with_reducible exact Bool.noConfusion (k2.symm.trans h) | skip)
            refine loop_fam ES4_ok mixed (σ := Nat × (Nat → V)) (fun p => p.1 ≤ n ∧ 2 * c ∣ p.1 ∧ PG g p.2 0 n ∧ Blks p.2 (2 * c) p.1 ∧ Rest p.2 c p.1 n) (fun p => n - p.1) (0, u) ⟨Nat.zero_le _, ⟨0, rfl⟩, hp, Blks.none _ _ (by omega), hb⟩ 1 0 [0, 1, 2, 6] (fun p => [(7, .int .i64 p.1), (8, .int .i64 ((p.1 + 2 * c : Nat) : Int))]) [] (fun p => [(0, .arr 34 3 n (vG p.2))]) (fun _ => []) ?_ ?_ ?_ ?_
            · rfl
            · rfl
            · refine Wk.mk' rfl rfl trivial ?_ ?_
              repeat' (refine BR.mk (fun _ => ?_) (fun _ => ?_))
              any_goals first | exact trivial | exact Wv.any _ | (refine Wv.int ?_; with_reducible rfl) | (refine Wv.str ?_; with_reducible rfl) | (refine Wv.bool ?_; with_reducible rfl) | refine Wv.int ?_ | refine Wv.str ?_ | refine Wv.bool ?_ | exact Wv.same rfl
              · rfl
              · rw [w2]; show ((2 * c : Nat) : Int) = ((0 + 2 * c : Nat) : Int); omega
              · exact ⟨Nat.le_of_ble_eq_true rfl, .inl ⟨rfl, _, rfl, arr_same (fun q hq => rfl) fun _ _ => rfl⟩⟩
            · clear hb hp hrv hv0
              rintro ⟨a, v⟩ ⟨ha1, ha2, hp, hb, hb2⟩
              simp only at ha1 ha2 hp hb hb2
              have hrv := hp.rgt (Nat.le_refl _) hr
              have hv0 : Holds2 n (vG v) v := fun q _ => rfl
              have w4 : IntKind.i64.wrap ((a : Int) + (c : Int)) = ((a + c : Nat) : Int) := i64_nat (by omega) (by omega)
              by_cases han : a + 2 * c ≤ n
              · have k3 : decide (((a + 2 * c : Nat) : Int) ≤ (n : Int)) = true := decide_eq_true (by omega)
                have two := hb2.two ha2 han
                repeat' (refine BR.mk (fun h => ?_) (fun h => ?_) <;> first | with_reducible exact Bool.noConfusion h | with_reducible exact Bool.noConfusion (k3.symm.trans h) | skip)
                · exact need_sym hv0 rfl w4 rfl (by omega) (by omega) han (by omega) (by omega) hrv two.1 two.2
                · refine Again.fam (a + 2 * c, srtG v a (a + 2 * c)) ⟨han, Nat.dvd_add ha2 (Nat.dvd_refl _), hp.trans ((PG.srt v a (a + 2 * c)).mono (Nat.zero_le _) (by omega) han), hb.step (by omega) ha2, hb2.step⟩ (by show n - (a + 2 * c) < n - a; omega) rfl rfl rfl rfl trivial ?_ ?_
                  · repeat' (refine BR.mk (fun _ => ?_) (fun _ => ?_))
                    any_goals first | exact trivial | exact Wv.any _ | (refine Wv.int ?_; with_reducible rfl) | (refine Wv.str ?_; with_reducible rfl) | (refine Wv.bool ?_; with_reducible rfl) | refine Wv.int ?_ | refine Wv.str ?_ | refine Wv.bool ?_ | exact Wv.same rfl
                    show IntKind.i64.wrap (((a + 2 * c : Nat) : Int) + IntKind.i64.wrap (2 * (c : Int))) = ((a + 2 * c + 2 * c : Nat) : Int)
                    rw [w2]; exact i64_nat (by omega) (by omega)
                  · repeat' (refine BR.mk (fun _ => ?_) (fun _ => ?_))
                    any_goals first | exact trivial | exact Wv.any _ | (refine Wv.int ?_; with_reducible rfl) | (refine Wv.str ?_; with_reducible rfl) | (refine Wv.bool ?_; with_reducible rfl) | refine Wv.int ?_ | refine Wv.str ?_ | refine Wv.bool ?_ | exact Wv.same rfl
                    exact ⟨Nat.le_of_ble_eq_true rfl, .inl ⟨rfl, _, rfl, arr_same (fun q hq => (hv0.srt (A := (a : Int)) (B := ((a + 2 * c : Nat) : Int)) rfl rfl han) q hq) fun _ _ => rfl⟩⟩
              · have k3 : decide (((a + 2 * c : Nat) : Int) ≤ (n : Int)) = false := decide_eq_false (by omega)
                have e2 := hb2.end2 ha2 (by omega)
                by_cases hm : a + c < n
                · have k4 : decide (IntKind.i64.wrap ((a : Int) + (c : Int)) < (n : Int)) = true := by rw [w4]; exact decide_eq_true (by omega)
                  have s1 : SS v a (a + c) := e2.1.mono (Nat.le_refl _) (by omega)
                  repeat' (refine BR.mk (fun h => ?_) (fun h => ?_) <;> first | with_reducible exact Bool.noConfusion h | with_reducible exact Bool.noConfusion (k3.symm.trans h) | with_reducible exact Bool.noConfusion (k4.symm.trans h) | skip)
                  · exact need_sym hv0 rfl w4 rfl (by omega) hm (Nat.le_refl _) (by omega) (by omega) hrv s1 e2.2
                  · refine Again.fam (2 * c, srtG v a n) ⟨by show 0 < 2 * c; omega, by show 2 * c ≤ _; omega, hp.trans ((PG.srt v a n).mono (Nat.zero_le _) ha1 (Nat.le_refl _)), hb.last (by omega) ha2 ha1 (by omega) (srtG_SS v a n) fun q h => srtG_out (by omega)⟩ (by show n - 2 * c < n - c; omega) rfl rfl rfl rfl trivial ?_ ?_
                    · repeat' (refine BR.mk (fun _ => ?_) (fun _ => ?_))
                      any_goals first | exact trivial | exact Wv.any _ | (refine Wv.int ?_; with_reducible rfl) | (refine Wv.str ?_; with_reducible rfl) | (refine Wv.bool ?_; with_reducible rfl) | refine Wv.int ?_ | refine Wv.str ?_ | refine Wv.bool ?_ | exact Wv.same rfl
                      exact w3
                    · repeat' (refine BR.mk (fun _ => ?_) (fun _ => ?_))
                      any_goals first | exact trivial | exact Wv.any _ | (refine Wv.int ?_; with_reducible rfl) | (refine Wv.str ?_; with_reducible rfl) | (refine Wv.bool ?_; with_reducible rfl) | refine Wv.int ?_ | refine Wv.str ?_ | refine Wv.bool ?_ | exact Wv.same rfl
                      exact ⟨Nat.le_of_ble_eq_true rfl, .inl ⟨rfl, _, rfl, arr_same (fun q hq => (hv0.srt (A := (a : Int)) (B := (n : Int)) rfl rfl (Nat.le_refl _)) q hq) fun _ _ => rfl⟩⟩
                · have k4 : decide (IntKind.i64.wrap ((a : Int) + (c : Int)) < (n : Int)) = false := by rw [w4]; exact decide_eq_false (by omega)
                  have s1 : SS v a n := e2.1.mono (Nat.le_refl _) (by omega)
                  repeat' (refine BR.mk (fun h => ?_) (fun h => ?_) <;> first | with_reducible exact Bool.noConfusion h | with_reducible exact Bool.noConfusion (k3.symm.trans h) | with_reducible exact Bool.noConfusion (k4.symm.trans h) | skip)
                  refine Again.fam (2 * c, v) ⟨by show 0 < 2 * c; omega, by show 2 * c ≤ _; omega, hp, hb.last (by omega) ha2 ha1 (by omega) s1 fun q _ => rfl⟩ (by show n - 2 * c < n - c; omega) rfl rfl rfl rfl trivial ?_ ?_
                  · repeat' (refine BR.mk (fun _ => ?_) (fun _ => ?_))
                    any_goals first | exact trivial | exact Wv.any _ | (refine Wv.int ?_; with_reducible rfl) | (refine Wv.str ?_; with_reducible rfl) | (refine Wv.bool ?_; with_reducible rfl) | refine Wv.int ?_ | refine Wv.str ?_ | refine Wv.bool ?_ | exact Wv.same rfl
                    exact w3
                  · repeat' (refine BR.mk (fun _ => ?_) (fun _ => ?_))
                    any_goals first | exact trivial | exact Wv.any _ | (refine Wv.int ?_; with_reducible rfl) | (refine Wv.str ?_; with_reducible rfl) | (refine Wv.bool ?_; with_reducible rfl) | refine Wv.int ?_ | refine Wv.str ?_ | refine Wv.bool ?_ | exact Wv.same rfl
                    exact ⟨Nat.le_of_ble_eq_true rfl, .inl ⟨rfl, _, rfl, arr_same (fun q hq => rfl) fun _ _ => rfl⟩⟩
          · have k2 : decide ((c : Int) < (n : Int)) = false := decide_eq_false (by omega)
            repeat' (refine BR.mk (fun h => ?_) (fun h => ?_) <;> first | with_reducible exact Bool.noConfusion h | with_reducible exact Bool.noConfusion (k2.symm.trans h) | skip)
            refine Go.Ab.Left.mk (Nat.le_of_ble_eq_true rfl) ⟨[], fun _ _ => rfl, Wv.same rfl, Wk.mk' rfl rfl trivial trivial ?_⟩
            repeat' (refine BR.mk (fun _ => ?_) (fun _ => ?_))
            any_goals first | exact trivial | exact Wv.any _ | (refine Wv.int ?_; with_reducible rfl) | (refine Wv.str ?_; with_reducible rfl) | (refine Wv.bool ?_; with_reducible rfl) | refine Wv.int ?_ | refine Wv.str ?_ | refine Wv.bool ?_ | exact Wv.same rfl
            exact ⟨Nat.le_of_ble_eq_true rfl, .inl ⟨rfl, _, rfl, arr_same (fun q hq => congrArg encV (hp.eq (hb.done (by omega)) (fun q _ h => hr q h) q)) fun _ _ => rfl⟩⟩
theorem hc_stable (n : Nat) (f : Nat → AV) (hn : n ≤ 1000) (hf : ∀ i, i < n → isV (f i) = true) (hr : ∀ x ∈ lO n f, right x = true) :
    HC Tryz.prog GV 200 [.hs 0 0 n 3 none, .int .i64 n, .clo 53 [] []] (St.small [.arr 34 3 n f] []) (.tup []) (rowOf (sortV (lO n f))) := by
  rw [← rowG_all]
  exact hc_stable0 n f (by omega) hf hr
noncomputable def h_stable : List AV → St → Res
  | [.hs i 0 n 3 none, .int .i64 a, .clo c [] []], m => match m.h i with
    | some (.arr T 3 n' f) => @Res.need (T = 34 ∧ n' = n ∧ c = 53 ∧ a = n ∧ n ≤ 1000 ∧ (∀ q, q < n → isV (f q) = true) ∧ ∀ x ∈ lO n f, right x = true) (Classical.propDecidable _) (.tup [])
        (m.within (St.small [.arr 34 3 n f] []) (rowOf (sortV (lO n f))) [i] [])
    | _ => .fail
  | _, _ => .fail
theorem h_stable_ok (xs : List AV) (m : St) : HRok Tryz.prog GV 200 xs m (h_stable xs m) := by
  unfold h_stable
  split
  · rename_i i n a c
    split
    · rename_i T n' f hi
      rintro ⟨rfl, rfl, rfl, rfl, hn, hf, hr⟩
      exact hc_small (hc_stable n' f hn hf hr) [i] [] (Nat.le_of_ble_eq_true rfl) (Nat.le_refl _) rfl (by simp) (by simp) ⟨⟨fun j hj => under_V (hf j hj), _, hi, fits_V hf⟩, trivial⟩ trivial
    · trivial
  · trivial
noncomputable def EB5 : Env := ES4.addH 200 h_stable
theorem EB5_ok : EnvOk Tryz.prog EB5 := Env.addH_ok ES4_ok (by kernel_rfl) h_stable_ok
theorem hc_sortS (n : Nat) (f : Nat → AV) (hn : n ≤ 1000) (hf : ∀ i, i < n → isV (f i) = true) (hr : ∀ x ∈ lO n f, right x = true) :
    HC Tryz.prog GV 172 [.hs 0 0 n 3 none, .clo 53 [] []] (St.small [.arr 34 3 n f] []) (.tup []) (rowOf (sortV (lO n f))) := by
  refine hc_of EB5_ok mixed (show Tryz.prog.funcs[172]? = some Tryz.f172 from rfl) (Nat.le_of_ble_eq_true rfl) (Nat.le_of_ble_eq_true rfl) ?_
  repeat' (refine BR.mk (fun h => ?_) (fun h => ?_) <;> try contradiction)
  · exact ⟨rfl, rfl, rfl, rfl, hn, hf, hr⟩
  · refine Go.Ab.Left.mk (Nat.le_of_ble_eq_true rfl) ⟨[], fun _ _ => rfl, Wv.same rfl, Wk.mk' rfl rfl trivial trivial ?_⟩
    refine BR.mk (fun _ => ?_) fun _ => trivial
    exact ⟨Nat.le_of_ble_eq_true rfl, .inl ⟨rfl, _, rfl, arr_same (fun j _ => rfl) fun j _ => rfl⟩⟩
noncomputable def h_sortS : List AV → St → Res
  | [.hs i 0 n 3 none, .clo c [] []], m => match m.h i with
    | some (.arr T 3 n' f) => @Res.need (T = 34 ∧ n' = n ∧ c = 53 ∧ n ≤ 1000 ∧ (∀ q, q < n → isV (f q) = true) ∧ ∀ x ∈ lO n f, right x = true) (Classical.propDecidable _) (.tup [])
        (m.within (St.small [.arr 34 3 n f] []) (rowOf (sortV (lO n f))) [i] [])
    | _ => .fail
  | _, _ => .fail
theorem h_sortS_ok (xs : List AV) (m : St) : HRok Tryz.prog GV 172 xs m (h_sortS xs m) := by
  unfold h_sortS
  split
  · rename_i i n c
    split
    · rename_i T n' f hi
      rintro ⟨rfl, rfl, rfl, hn, hf, hr⟩
      exact hc_small (hc_sortS n' f hn hf hr) [i] [] (Nat.le_of_ble_eq_true rfl) (Nat.le_refl _) rfl (by simp) (by simp) ⟨⟨fun j hj => under_V (hf j hj), _, hi, fits_V hf⟩, trivial⟩ trivial
    · trivial
  · trivial
noncomputable def EB6 : Env := EB5.addH 172 h_sortS
theorem EB6_ok : EnvOk Tryz.prog EB6 := Env.addH_ok EB5_ok (by kernel_rfl) h_sortS_ok
/-- a boxed slice, and a row -/
def boxSt (n : Nat) (f : Nat → AV) (l : List V) : St := St.mk' 0 2 1 [] [(0, .cells [.sl (.tok 0) n f]), (1, .arr 34 3 l.length (vF l))] [(0, n, 34)]
theorem hc_sorted (n : Nat) (f : Nat → AV) (hn : n ≤ 1000) (hf : ∀ i, i < n → isV (f i) = true) (hr : ∀ x ∈ lO n f, right x = true) :
    HC Tryz.prog GV 122 [.clo 173 [] [.ptr 0 0], .clo 53 [] []] (St.small [.cells [.sl (.tok 0) n f]] [(n, 34)]) (.hs 1 0 n 3 none) (boxSt n f (sortV (lO n f))) := by
  have hrn : ∀ ρ θ : Nat → Nat, lO n (fun j => ren ρ θ (f j)) = lO n f := fun ρ θ => by
    unfold lO
    refine List.map_congr_left fun j hj => ?_
    show vO (ren ρ θ (f j)) = vO (f j)
    rw [ren_V (hf j (by simpa using hj))]
  refine hc_of EB6_ok mixed (show Tryz.prog.funcs[122]? = some Tryz.f122 from rfl) (Nat.le_of_ble_eq_true rfl) (Nat.le_of_ble_eq_true rfl) ?_
  repeat' (refine BR.mk (fun h => ?_) (fun h => ?_) <;> try contradiction)
  · exact ⟨rfl, rfl, by omega, hf⟩
  · refine ⟨rfl, rfl, rfl, hn, fun q hq => ?_, ?_⟩
    · show isV (ren _ _ (f q)) = true
      rw [ren_V (hf q hq)]; exact hf q hq
    · intro x hx
      exact hr x ((hrn _ _).subst (motive := fun l => x ∈ l) hx)
  · refine Go.Ab.Left.mk (Nat.le_of_ble_eq_true rfl) ⟨[], fun _ _ => rfl, Wv.same rfl, Wk.mk' rfl rfl ⟨fun _ => rfl, fun _ => trivial⟩ trivial ?_⟩
    refine BR.mk (fun _ => ?_) fun _ => BR.mk (fun _ => ?_) fun _ => trivial
    · exact ⟨Nat.le_of_ble_eq_true rfl, .inl ⟨rfl, _, rfl, .cons (Wv.sl rfl (fun _ _ => rfl) ⟨rfl, Nat.le_of_ble_eq_true rfl⟩) .nil⟩⟩
    · refine ⟨Nat.le_of_ble_eq_true rfl, .inl ⟨rfl, _, rfl, ?_⟩⟩
      show WvB _ _ _ (.arr 34 3 (sortV (lO n fun j => ren _ _ (f j))).length fun j => ren _ _ (vF (sortV (lO n fun j => ren _ _ (f j))) j)) _
      rw [hrn]
      exact arr_same (fun j _ => rfl) fun j _ => rfl

end Go.Proofs.YtejepcnoflahkaaGreatDoor
