/- The package agg, tier 1: sums of two words, the key of a value. The package agg, tier 2: a value's part of a key. The package agg, tier 3: the key of one value. The package agg, tier 4: what a total holds; does a value count? -/
import Derived.Test.YtejepcnoflahkaaGreatDoorASpec
import Derived.Test.YtejepcnoflahkaaGreatDoorVWalk5
import Derived.Test.YtejepcnoflahkaaGreatDoorBld3
import Derived.Laws.Externs
namespace Go.Proofs.YtejepcnoflahkaaGreatDoor
open Go Go.Ab
set_option linter.unusedVariables false
set_option linter.unusedSimpArgs false
set_option maxRecDepth 100000
set_option maxHeartbeats 8000000

theorem repIII {X : Cx} {p : Bool} {k1 k2 k3 : IntKind} {a b c : Int} {vs : List Value} (h : RepL X p [.int k1 a, .int k2 b, .int k3 c] vs) : vs = [.int k1 a, .int k2 b, .int k3 c] := by
  cases h with | cons h1 h => cases h with | cons h2 h => cases h with | cons h3 h => cases h; cases h1; cases h2; cases h3; rfl
theorem xc_add (a b c : Int) (hn : (0 ≤ a ∧ a < 18446744073709551616) ∧ (0 ≤ b ∧ b < 18446744073709551616) ∧ 0 ≤ c ∧ c ≤ 1) : XC Tryz.prog 120 [.int .u64 a, .int .u64 b, .int .u64 c] (.tup [.int .u64 ((a + b + c) % 18446744073709551616), .int .u64 ((a + b + c) / 18446744073709551616)]) := by
  intro X cargs h
  obtain rfl := repIII h
  obtain ⟨x, rfl⟩ := Int.eq_ofNat_of_zero_le hn.1.1
  obtain ⟨y, rfl⟩ := Int.eq_ofNat_of_zero_le hn.2.1.1
  obtain ⟨z, rfl⟩ := Int.eq_ofNat_of_zero_le hn.2.2.1
  refine ⟨.tuple #[.int .u64 (((x + y + z) % 18446744073709551616 : Nat) : Int), .int .u64 (((x + y + z) / 18446744073709551616 : Nat) : Int)], ?_, ?_⟩
  · show (callFunc _ #[.int .u64 x, .int .u64 y, .int .u64 z]).run _ _ = _
    rw [run_callFunc_extern Tryz.func120 (by kernel_rfl) (by kernel_rfl) (by kernel_rfl) (e := add64Entry) (by kernel_rfl), run_add64 x y z (by omega) (by omega) (by omega) (by omega)]
    simp only [Result.andThen]
    congr 5 <;> omega
  · exact .tup (vs := [_, _]) (.cons (by rw [show (((x : Int) + y + z) % 18446744073709551616) = (((x + y + z) % 18446744073709551616 : Nat) : Int) from by omega]; exact .int ..) (.cons (by rw [show (((x : Int) + y + z) / 18446744073709551616) = (((x + y + z) / 18446744073709551616 : Nat) : Int) from by omega]; exact .int ..) .nil))
def h_add64 : List AV → CR
  | [.int .u64 a, .int .u64 b, .int .u64 c] => .need ((0 ≤ a ∧ a < 18446744073709551616) ∧ (0 ≤ b ∧ b < 18446744073709551616) ∧ 0 ≤ c ∧ c ≤ 1) (.tup [.int .u64 ((a + b + c) % 18446744073709551616), .int .u64 ((a + b + c) / 18446744073709551616)])
  | _ => .no
theorem h_add64_ok (xs : List AV) : XRok Tryz.prog 120 xs (h_add64 xs) := by
  unfold h_add64
  split
  · rename_i a b c
    exact fun hn => xc_add a b c hn
  · trivial
def EA0 : Env := E5.add 120 h_add64
theorem EA0_ok : EnvOk Tryz.prog EA0 := Env.addX_ok E5_ok h_add64_ok

/-! the last bytes of a number -/
theorem highS_get (x : Int) : ∀ k j, j < k → (highS x k).getD j 0 = UInt8.ofNat ((x / 256 ^ (k - 1 - j)) % 256).toNat
  | 0, j, h => by omega
  | k + 1, 0, h => by simp [highS]
  | k + 1, j + 1, h => by
    have := highS_get x k j (by omega)
    simp only [highS, List.getD_cons_succ]
    rw [this, show k + 1 - 1 - (j + 1) = k - 1 - j from by omega]
theorem highS_len (x : Int) : ∀ k, (highS x k).length = k
  | 0 => rfl
  | k + 1 => by simp [highS, highS_len x k]
theorem u8_of (n : Int) (h : 0 ≤ n ∧ n < 256) : ((UInt8.ofNat n.toNat).toNat : Int) = n := by
  rw [UInt8.toNat_ofNat']; omega
theorem fdiv_pow (x : Int) (h : 0 ≤ x) (i : Nat) (hi : i < 8) : x.fdiv (2 ^ (min ((8 * (i : Int)).toNat) 64)) = x / 256 ^ i := by
  have e : (2 : Int) ^ (min ((8 * (i : Int)).toNat) 64) = 256 ^ i := by
    rw [show min ((8 * (i : Int)).toNat) 64 = 8 * i from by omega, Int.pow_mul]; rfl
  rw [e]
  exact Int.fdiv_eq_ediv_of_nonneg _ (Int.pow_nonneg (by decide))
/-- one owner, so long a row of bytes -/
def kB (n : Nat) : St := St.mk' 0 0 1 [] [] [(0, n, 5)]
theorem hc_high (n : Nat) (f : Nat → AV) (x : Int) (hx : 0 ≤ x) (hn : n ≤ 140000000000000) (hf : ∀ j, j < n → isByte (f j)) :
    HC Tryz.prog GV 196 [.sl (.tok 0) n f, .int .u64 x, .int .i64 8] (St.small [] [(n, 5)]) (.sl (.tok 0) (n + 8) (joinF n f (strF (highS x 8)))) (kB (n + 8)) := by
  refine hc_of EA0_ok mixed (show Tryz.prog.funcs[196]? = some Tryz.f196 from rfl) (Nat.le_of_ble_eq_true rfl) (Nat.le_of_ble_eq_true rfl) ?_
  have hg := highS_get x 8
  have hl := highS_len x 8
  generalize highS x 8 = l at hg hl
  have hF := isByte_join hf (isByte_str l)
  rw [hl] at hF
  refine loop_fam EA0_ok mixed (σ := Nat) (fun j => j ≤ 8) (fun j => 8 - j) 0 (Nat.zero_le _) 0 1 [1] (fun j => [(0, .sl (.tok 0) (n + j) (joinF n f (strF l))), (7, .int .i64 (7 - (j : Int)))]) [] (fun _ => []) (fun j => [(0, n + j, 5)]) ?_ ?_ ?_ ?_
  · rfl
  · rfl
  · refine Wk.mk' rfl rfl ⟨fun _ => rfl, fun _ => trivial⟩ ?_ trivial
    repeat' (refine BR.mk (fun _ => ?_) (fun _ => ?_))
    any_goals first | exact trivial | exact Wv.any _ | (refine Wv.int ?_; with_reducible rfl) | (refine Wv.str ?_; with_reducible rfl) | (refine Wv.bool ?_; with_reducible rfl) | refine Wv.int ?_ | refine Wv.str ?_ | refine Wv.bool ?_ | exact Wv.same rfl
    · exact Wv.sl rfl (fun i hi => (joinF_lo hi).symm) ⟨rfl, Nat.le_of_ble_eq_true rfl⟩
    · rfl
  · intro j hj
    have w1 : IntKind.i64.wrap (8 * (7 - (j : Int))) = 8 * (7 - (j : Int)) := wrap_id (by unfold i64; omega)
    have w2 : IntKind.i64.wrap (7 - (j : Int) - 1) = 7 - ((j + 1 : Nat) : Int) := by rw [wrap_id (by unfold i64; omega)]; omega
    repeat' (refine BR.mk (fun h => ?_) (fun h => ?_) <;> try contradiction)
    · rename_i h1; simp only [decide_eq_true_eq] at h1
      rw [w1]; omega
    · rename_i h1 _; simp only [decide_eq_true_eq] at h1
      refine ⟨rfl, by decide, rfl, by simp; omega, by omega, fun i hi => ?_, all1 rfl, all1 rfl⟩
      rw [isByte_int (hF i (by omega))]; rfl
    · rename_i h1 _; simp only [decide_eq_true_eq] at h1
      refine Again.fam (j + 1) (by omega) (by omega) rfl rfl rfl rfl ⟨fun _ => rfl, fun _ => trivial⟩ ?_ trivial
      repeat' (refine BR.mk (fun _ => ?_) (fun _ => ?_))
      any_goals first | exact trivial | exact Wv.any _ | (refine Wv.int ?_; with_reducible rfl) | (refine Wv.str ?_; with_reducible rfl) | (refine Wv.bool ?_; with_reducible rfl) | refine Wv.int ?_ | refine Wv.str ?_ | refine Wv.bool ?_ | exact Wv.same rfl
      · refine Wv.sl (by omega) (fun i hi => ?_) ⟨rfl, Nat.le_of_ble_eq_true rfl⟩
        by_cases hlt : i < n + j
        · rw [joinF_lo hlt]
        · obtain rfl : i = n + j := by omega
          rw [joinF_hi (Nat.le_refl _), Nat.sub_self, joinF_hi (by omega), show n + j - n = j from by omega]
          show AV.int .u8 _ = AV.int .u8 _
          congr 1
          rw [hg j (by omega), w1]
          have e7 : (7 : Int) - j = ((7 - j : Nat) : Int) := by omega
          rw [e7, show IntKind.u64.bits = 64 from rfl, fdiv_pow x hx (7 - j) (by omega), show 8 - 1 - j = 7 - j from by omega]
          rw [u8_of _ ⟨Int.emod_nonneg _ (by decide), Int.emod_lt_of_pos _ (by decide)⟩]
          rfl
      · exact w2
    · simp only [decide_eq_false_iff_not] at h
      have : j = 8 := by omega
      subst this
      refine Go.Ab.Left.mk (Nat.le_refl _) ⟨[], fun _ _ => rfl, Wv.same rfl, Wk.mk' rfl rfl ⟨fun _ => rfl, fun _ => trivial⟩ trivial trivial⟩
theorem txtA_byte {c : Int} (h : isByte (.int .u8 c)) : txtA 1 (oneF c) = [UInt8.ofNat c.toNat] := txtA_eq rfl fun j hj => by
  have : j = 0 := by omega
  subst this; exact byte_str h
theorem elem1 (c : Int) (j : Nat) (hj : j < 1) : elemA false 1 [AV.int .u8 c] j = .int .u8 c := by
  have : j = 0 := by omega
  subst this; rfl
/-- a byte more behind bytes -/
theorem join1 {n : Nat} {f : Nat → AV} {c : Int} (hf : ∀ j, j < n → isByte (f j)) (hc : isByte (.int .u8 c)) : ∀ j, j < n + 1 → joinF n f (elemA false 1 [AV.int .u8 c]) j = strF (txtA n f ++ [UInt8.ofNat c.toNat]) j := fun j hj => by
  refine Eq.trans ?_ (join_txt [UInt8.ofNat c.toNat] hf j hj)
  by_cases h : j < n
  · rw [joinF_lo h, joinF_lo h]
  · rw [joinF_hi (by omega), joinF_hi (by omega), elem1 c _ (by omega), show j - n = 0 from by omega]
    exact byte_str hc
theorem join_len {n m : Nat} {f g : Nat → AV} (hf : ∀ j, j < n → isByte (f j)) : ∀ j, j < n → (f j).cells.length = 1 := fun j hj => by
  rw [isByte_int (hf j hj)]; rfl
def bB (n : Nat) (f : Nat → AV) : St := St.mk' 0 1 1 [] [(0, .cells [.sl (.tok 0) n f])] [(0, n, 5)]
theorem hc_put (n : Nat) (f : Nat → AV) (c : Int) (hn : n ≤ 140000000000000) (hf : ∀ j, j < n → isByte (f j)) (hc : isByte (.int .u8 c)) :
    HC Tryz.prog GV 197 [.int .u8 c, .ptr 0 0] (St.small [.cells [.sl (.tok 0) n f]] [(n, 5)]) (.tup []) (bB (n + if c = 0 then 2 else 1) (strF (txtA n f ++ if c = 0 then [0, 255] else [UInt8.ofNat c.toNat]))) := by
  by_cases h0 : c = 0
  · subst h0
    refine hc_of EA0_ok mixed (show Tryz.prog.funcs[197]? = some Tryz.f197 from rfl) (Nat.le_of_ble_eq_true rfl) (Nat.le_of_ble_eq_true rfl) ?_
    have h1 : ∀ j, j < n + 1 → isByte (joinF n f (elemA false 1 [AV.int .u8 0]) j) := isByte_join hf (all1 hc)
    repeat' (refine BR.mk (fun h => ?_) (fun h => ?_) <;> try contradiction)
    · exact ⟨rfl, by decide, rfl, by simp; omega, by omega, join_len (m := 0) (g := f) hf, all1 rfl, all1 rfl⟩
    · exact ⟨rfl, by decide, rfl, by simp; omega, by omega, join_len (m := 0) (g := f) h1, all1 rfl, all1 rfl⟩
    · refine Go.Ab.Left.mk (Nat.le_refl _) ⟨[], fun _ _ => rfl, Wv.same rfl, Wk.mk' rfl rfl ⟨fun _ => rfl, fun _ => trivial⟩ trivial ?_⟩
      refine BR.mk (fun _ => ?_) fun _ => trivial
      refine ⟨Nat.le_of_ble_eq_true rfl, .inl ⟨rfl, _, rfl, .cons (Wv.sl rfl (fun j hj => ?_) ⟨rfl, Nat.le_of_ble_eq_true rfl⟩) .nil⟩⟩
      have hj : j < n + 2 := hj
      refine (join1 h1 (c := 255) (by exact ⟨by decide, by decide⟩) j (by omega)).trans ?_
      congr 1
      rw [txtA_eq (l := txtA n f ++ [UInt8.ofNat (0 : Int).toNat]) (by simp [txtA_len]) (join1 hf hc)]
      simp
  · refine hc_of EA0_ok mixed (show Tryz.prog.funcs[197]? = some Tryz.f197 from rfl) (Nat.le_of_ble_eq_true rfl) (Nat.le_of_ble_eq_true rfl) ?_
    have e : (c == 0) = false := by simpa using h0
    repeat' (refine BR.mk (fun h => ?_) (fun h => ?_) <;> first | contradiction | ((try simp [e] at h) <;> (first | (exfalso; omega) | skip)))
    · exact ⟨rfl, by decide, rfl, by simp; omega, by omega, join_len (m := 0) (g := f) hf, all1 rfl, all1 rfl⟩
    · refine Go.Ab.Left.mk (Nat.le_refl _) ⟨[], fun _ _ => rfl, Wv.same rfl, Wk.mk' rfl rfl ⟨fun _ => by rw [if_neg h0]; rfl, fun _ => trivial⟩ trivial ?_⟩
      refine BR.mk (fun _ => ?_) fun _ => trivial
      rw [if_neg h0, if_neg h0]
      exact ⟨Nat.le_of_ble_eq_true rfl, .inl ⟨rfl, _, rfl, .cons (Wv.sl rfl (join1 hf hc) ⟨rfl, Nat.le_of_ble_eq_true rfl⟩) .nil⟩⟩
def h_put : List AV → St → Res
  | [.int .u8 c, .ptr i 0], m => match m.h i with
    | some (.cells [.sl (.tok t) n f]) => .need (m.k t = some (n, 5) ∧ n ≤ 140000000000000 ∧ (∀ j, j < n → isByte (f j)) ∧ isByte (.int .u8 c)) (.tup [])
        (m.within (St.small [.cells [.sl (.tok 0) n f]] [(n, 5)]) (bB (n + if c = 0 then 2 else 1) (strF (txtA n f ++ if c = 0 then [0, 255] else [UInt8.ofNat c.toNat]))) [i] [t])
    | _ => .fail
  | _, _ => .fail
theorem h_put_ok (xs : List AV) (m : St) : HRok Tryz.prog GV 197 xs m (h_put xs m) := by
  unfold h_put
  split
  · rename_i c i
    split
    · rename_i t n f hi
      rintro ⟨hk, hn, hf, hc⟩
      exact hc_small (hc_put n f c hn hf hc) [i] [t] (Nat.le_of_ble_eq_true rfl) (Nat.le_of_ble_eq_true rfl) rfl (by simp) (by simp) ⟨⟨rfl, _, hi, leB.refl _⟩, trivial⟩ ⟨hk, trivial⟩
    · trivial
  · trivial
def h_high : List AV → St → Res
  | [.sl (.tok t) n f, .int .u64 x, .int .i64 8], m => .need (m.k t = some (n, 5) ∧ 0 ≤ x ∧ n ≤ 140000000000000 ∧ ∀ j, j < n → isByte (f j)) (.sl (.tok t) (n + 8) (joinF n f (strF (highS x 8)))) (m.within (St.small [] [(n, 5)]) (kB (n + 8)) [] [t])
  | _, _ => .fail
theorem h_high_ok (xs : List AV) (m : St) : HRok Tryz.prog GV 196 xs m (h_high xs m) := by
  unfold h_high
  split
  · rename_i t n f x
    rintro ⟨hk, hx, hn, hf⟩
    exact hc_small (hc_high n f x hx hn hf) [] [t] (Nat.le_of_ble_eq_true rfl) (Nat.le_of_ble_eq_true rfl) rfl (by simp) (by simp) trivial ⟨hk, trivial⟩
  · trivial
def EA1 : Env := EA0.addH 196 h_high
theorem EA1_ok : EnvOk Tryz.prog EA1 := Env.addH_ok EA0_ok (by kernel_rfl) h_high_ok
def EA2_0 : Env := EA1.addH 197 h_put
theorem EA2_0_ok : EnvOk Tryz.prog EA2_0 := Env.addH_ok EA1_ok (by kernel_rfl) h_put_ok
def EA2 : Env := { EA2_0 with hc := true, ap := true }
theorem EA2_ok : EnvOk Tryz.prog EA2 := ⟨EA2_0_ok.g, EA2_0_ok.s, EA2_0_ok.t, EA2_0_ok.h⟩

theorem escS_append : ∀ a b : List UInt8, escS (a ++ b) = escS a ++ escS b
  | [], b => rfl
  | c :: a, b => by
    simp only [List.cons_append, escS, escS_append a b]
    split <;> rfl
theorem escS_take (s : List UInt8) (i : Nat) (h : i < s.length) : escS (s.take (i + 1)) = escS (s.take i) ++ if s.getD i 0 = 0 then [0, 255] else [s.getD i 0] := by
  have e : s.take (i + 1) = s.take i ++ [s.getD i 0] := by
    rw [List.take_add_one]
    simp [List.getD_eq_getElem?_getD, List.getElem?_eq_getElem h]
  rw [e, escS_append]
  congr 1
theorem escS_len : ∀ s : List UInt8, (escS s).length ≤ 2 * s.length
  | [] => Nat.le_refl _
  | c :: s => by
    have := escS_len s
    simp only [escS]
    split <;> (simp only [List.length_cons]; omega)
theorem join_nil {m : Nat} {f g : Nat → AV} : ∀ j, j < 0 + m → joinF 0 f g j = g j := fun j _ => by
  rw [joinF_hi (Nat.zero_le _), Nat.sub_zero]
theorem hc_part0 (g : Nat → AV) (n : Int) (s : List UInt8) : HC Tryz.prog GV 166 [.sl .nil 0 g, .agg [.int .u8 0, .int .i64 n, .str s]] (St.small [] []) (.sl (.tok 0) 1 (strF [1])) (kB 1) := by
  refine hc_of EA2_ok mixed (show Tryz.prog.funcs[166]? = some Tryz.f166 from rfl) (Nat.le_of_ble_eq_true rfl) (Nat.le_of_ble_eq_true rfl) ?_
  repeat' (refine BR.mk (fun h => ?_) (fun h => ?_) <;> try contradiction)
  · exact ⟨by decide, rfl, by decide, by decide, fun i hi => absurd hi (Nat.not_lt_zero _), all1 rfl, all1 rfl⟩
  · refine Go.Ab.Left.mk (Nat.zero_le _) ⟨[], fun _ _ => rfl, Wv.sl rfl (fun j hj => ?_) ⟨rfl, Nat.le_of_ble_eq_true rfl⟩, Wk.mk' rfl rfl ⟨fun _ => rfl, fun _ => trivial⟩ trivial trivial⟩
    refine (join_nil (m := 1) j (by omega)).trans ?_
    obtain rfl : j = 0 := by omega
    exact byte_str (c := 1) ⟨by decide, by decide⟩
theorem strF_cons0 (b : UInt8) (l : List UInt8) : strF (b :: l) 0 = .int .u8 (b.toNat : Int) := rfl
theorem strF_cons1 (b : UInt8) (l : List UInt8) (j : Nat) : strF (b :: l) (j + 1) = strF l j := rfl
theorem flip_nn (n : Int) : 0 ≤ flipV n := by
  unfold flipV IntKind.wrap
  simp only [show IntKind.u64.signed = false from rfl]
  exact Int.emod_nonneg _ (by decide)
theorem byte_of (b : UInt8) : isByte (.int .u8 (b.toNat : Int)) := by
  have := b.toNat_lt
  exact ⟨by omega, by omega⟩
theorem ofN (b : UInt8) : UInt8.ofNat ((b.toNat : Int)).toNat = b := by
  rw [Int.toNat_natCast, UInt8.ofNat_toNat]
theorem zero_of (b : UInt8) : ((b.toNat : Int) = 0) = (b = 0) := by
  refine propext ⟨fun h => ?_, fun h => by rw [h]; rfl⟩
  have : b.toNat = 0 := by omega
  exact UInt8.toNat_inj.1 this
theorem hc_part1 (g : Nat → AV) (n : Int) (s : List UInt8) : HC Tryz.prog GV 166 [.sl .nil 0 g, .agg [.int .u8 1, .int .i64 n, .str s]] (St.small [] []) (.sl (.tok 0) 9 (strF (2 :: highS (flipV n) 8))) (kB 9) := by
  refine hc_of EA2_ok mixed (show Tryz.prog.funcs[166]? = some Tryz.f166 from rfl) (Nat.le_of_ble_eq_true rfl) (Nat.le_of_ble_eq_true rfl) ?_
  have hl := highS_len (flipV n) 8
  have hnn := flip_nn n
  have e1 : ∀ j, j < 0 + 1 → joinF 0 g (elemA false 1 [AV.int .u8 2]) j = strF [2] j := fun j hj => by
    obtain rfl : j = 0 := by omega
    rfl
  repeat' (refine BR.mk (fun h => ?_) (fun h => ?_) <;> try contradiction)
  · exact (show commutes _ _ = true by kernel_rfl)
  · exact ⟨by decide, rfl, by decide, by decide, fun i hi => absurd hi (Nat.not_lt_zero _), all1 rfl, all1 rfl⟩
  · exact ⟨rfl, hnn, by decide, fun j hj => by
      obtain rfl : j = 0 := by omega
      exact ⟨by decide, by decide⟩⟩
  · refine Go.Ab.Left.mk (Nat.zero_le _) ⟨[], fun _ _ => rfl, Wv.sl rfl (fun j hj => ?_) ⟨rfl, Nat.le_of_ble_eq_true rfl⟩, Wk.mk' rfl rfl ⟨fun _ => rfl, fun _ => trivial⟩ trivial trivial⟩
    show joinF (0 + 1) (joinF 0 g (elemA false 1 [AV.int .u8 2])) (strF (highS (flipV n) 8)) j = strF ([2] ++ highS (flipV n) 8) j
    have h1 := join_txt (n := 0 + 1) (f := joinF 0 g (elemA false 1 [AV.int .u8 2])) (highS (flipV n) 8) (fun j hj => by
      obtain rfl : j = 0 := by omega
      exact byte_of 2) j (by rw [hl]; exact hj)
    rw [h1, show txtA (0 + 1) (joinF 0 g (elemA false 1 [AV.int .u8 2])) = [2] from txtA_eq (n := 0 + 1) (l := [2]) rfl e1]
theorem hc_part2 (g : Nat → AV) (k n : Int) (s : List UInt8) (hk : k = 2 ∨ k = 3) (hs : s.length ≤ 65536) : HC Tryz.prog GV 166 [.sl .nil 0 g, .agg [.int .u8 k, .int .i64 n, .str s]] (St.small [] []) (.sl (.tok 0) ((escS s).length + 3) (strF ((if k = 2 then 3 else 4) :: (escS s ++ [0, 0])))) (kB ((escS s).length + 3)) := by
  rcases hk with rfl | rfl
  · refine hc_of EA2_ok mixed (show Tryz.prog.funcs[166]? = some Tryz.f166 from rfl) (Nat.le_of_ble_eq_true rfl) (Nat.le_of_ble_eq_true rfl) ?_
    have lenL : ∀ i, i ≤ s.length → (3 :: escS (s.take i)).length ≤ 131073 := fun i hi => by
      have := escS_len (s.take i)
      simp only [List.length_cons, List.length_take] at this ⊢
      omega
    have el : ∀ i, i < s.length → (3 :: escS (s.take i)) ++ (if ((s.getD i 0).toNat : Int) = 0 then [0, 255] else [UInt8.ofNat ((s.getD i 0).toNat : Int).toNat]) = 3 :: escS (s.take (i + 1)) := fun i hi => by
      rw [escS_take s i hi, ofN]
      simp only [zero_of, List.cons_append]
    have en : ∀ i, i < s.length → (3 :: escS (s.take i)).length + (if ((s.getD i 0).toNat : Int) = 0 then 2 else 1) = (3 :: escS (s.take (i + 1))).length := fun i hi => by
      rw [← el i hi, List.length_append]
      congr 1
      split <;> rfl
    repeat' (refine BR.mk (fun h => ?_) (fun h => ?_) <;> try contradiction)
    · exact ⟨by decide, rfl, by decide, by decide, fun i hi => absurd hi (Nat.not_lt_zero _), all1 rfl, all1 rfl⟩
    · refine loop_fam EA2_ok mixed (σ := Nat) (fun i => i ≤ s.length) (fun i => s.length - i) 0 (Nat.zero_le _) 2 1 [2, 3, 5, 35] (fun i => [(36, .int .i64 i)]) [1] (fun i => [(0, .cells [.sl (.tok 0) (3 :: escS (s.take i)).length (strF (3 :: escS (s.take i)))])]) (fun i => [(0, (3 :: escS (s.take i)).length, 5)]) ?_ ?_ ?_ ?_
      · rfl
      · rfl
      · refine Wk.mk' rfl rfl ⟨fun _ => rfl, fun _ => trivial⟩ ?_ ?_
        repeat' (refine BR.mk (fun _ => ?_) (fun _ => ?_))
        any_goals first | exact trivial | exact Wv.any _ | (refine Wv.int ?_; with_reducible rfl) | (refine Wv.str ?_; with_reducible rfl) | (refine Wv.bool ?_; with_reducible rfl) | refine Wv.int ?_ | refine Wv.str ?_ | refine Wv.bool ?_ | exact Wv.same rfl
        · rfl
        · exact ⟨Nat.le_of_ble_eq_true rfl, .inl ⟨rfl, _, rfl, .same rfl⟩⟩
        · refine ⟨Nat.le_of_ble_eq_true rfl, .inl ⟨rfl, _, rfl, .cons (Wv.sl rfl (fun j hj => ?_) ⟨rfl, Nat.le_of_ble_eq_true rfl⟩) .nil⟩⟩
          have hj : j < 1 := hj
          obtain rfl : j = 0 := by omega
          rfl
      · intro i hi
        have w1 : IntKind.i64.wrap ((i : Int) + 1) = (i : Int) + 1 := wrap_id (by unfold i64; omega)
        repeat' (refine BR.mk (fun h => ?_) (fun h => ?_) <;> try contradiction)
        · rename_i h1; simp only [decide_eq_true_eq] at h1
          exact ⟨by omega, by omega⟩
        · rename_i h1 _; simp only [decide_eq_true_eq] at h1
          exact ⟨rfl, Nat.le_trans (lenL i hi) (by decide), isByte_str _, byte_of _⟩
        · rename_i h1 _; simp only [decide_eq_true_eq] at h1
          have hi' : i < s.length := by omega
          refine Again.fam (i + 1) (by omega) (by omega) rfl rfl rfl rfl ⟨fun _ => ?_, fun _ => trivial⟩ ?_ ?_
          · exact congrArg (fun t => some (t, 5)) (en i hi').symm
          · repeat' (refine BR.mk (fun _ => ?_) (fun _ => ?_))
            any_goals first | exact trivial | exact Wv.any _ | (refine Wv.int ?_; with_reducible rfl) | (refine Wv.str ?_; with_reducible rfl) | (refine Wv.bool ?_; with_reducible rfl) | refine Wv.int ?_ | refine Wv.str ?_ | refine Wv.bool ?_ | exact Wv.same rfl
            exact w1
          · repeat' (refine BR.mk (fun _ => ?_) (fun _ => ?_))
            any_goals first | exact trivial | exact Wv.any _ | (refine Wv.int ?_; with_reducible rfl) | (refine Wv.str ?_; with_reducible rfl) | (refine Wv.bool ?_; with_reducible rfl) | refine Wv.int ?_ | refine Wv.str ?_ | refine Wv.bool ?_ | exact Wv.same rfl
            · exact ⟨Nat.le_of_ble_eq_true rfl, .inl ⟨rfl, _, rfl, .same rfl⟩⟩
            · refine ⟨Nat.le_of_ble_eq_true rfl, .inl ⟨rfl, _, rfl, .cons (Wv.sl (en i hi') (fun j hj => ?_) ⟨rfl, Nat.le_of_ble_eq_true rfl⟩) .nil⟩⟩
              refine congrArg (fun t => strF t j) (Eq.trans ?_ (el i hi'))
              exact congrArg (fun t => t ++ _) (txtA_str (3 :: escS (s.take i)))
        · rename_i h1; simp only [decide_eq_false_iff_not] at h1
          exact ⟨rfl, by decide, rfl, by have := lenL i hi; show ((_ : Nat) + 2) * 1 ≤ _; omega, by have := lenL i hi; omega, join_len (m := 0) (g := strF []) (isByte_str _), fun j hj => by match j, hj with | 0, _ => rfl | 1, _ => rfl, fun j hj => by match j, hj with | 0, _ => rfl | 1, _ => rfl⟩
        · rename_i h1; simp only [decide_eq_false_iff_not] at h1
          obtain rfl : i = s.length := by omega
          have ef : (3 :: escS (s.take s.length)).length + 2 = (escS s).length + 3 := by rw [List.take_length]; rfl
          refine Go.Ab.Left.mk (Nat.zero_le _) ⟨[], fun _ _ => rfl, Wv.sl ef (fun j hj => ?_) ⟨rfl, Nat.le_of_ble_eq_true rfl⟩, Wk.mk' rfl rfl ⟨fun _ => congrArg (fun t => some (t, 5)) ef.symm, fun _ => trivial⟩ trivial trivial⟩
          have h2 := join_txt (n := (3 :: escS (s.take s.length)).length) (f := strF (3 :: escS (s.take s.length))) [0, 0] (isByte_str _) j (by rw [← ef] at hj; exact hj)
          refine Eq.trans (Eq.trans ?_ h2) ?_
          · by_cases hlt : j < (3 :: escS (s.take s.length)).length
            · rw [joinF_lo hlt, joinF_lo hlt]
            · rw [joinF_hi (by omega), joinF_hi (by omega)]
              have : j - (3 :: escS (s.take s.length)).length < 2 := by rw [← ef] at hj; omega
              generalize j - (3 :: escS (s.take s.length)).length = q at this
              match q, this with | 0, _ => rfl | 1, _ => rfl
          · rw [txtA_str, List.take_length]
            rfl
  · refine hc_of EA2_ok mixed (show Tryz.prog.funcs[166]? = some Tryz.f166 from rfl) (Nat.le_of_ble_eq_true rfl) (Nat.le_of_ble_eq_true rfl) ?_
    have lenL : ∀ i, i ≤ s.length → (4 :: escS (s.take i)).length ≤ 131073 := fun i hi => by
      have := escS_len (s.take i)
      simp only [List.length_cons, List.length_take] at this ⊢
      omega
    have el : ∀ i, i < s.length → (4 :: escS (s.take i)) ++ (if ((s.getD i 0).toNat : Int) = 0 then [0, 255] else [UInt8.ofNat ((s.getD i 0).toNat : Int).toNat]) = 4 :: escS (s.take (i + 1)) := fun i hi => by
      rw [escS_take s i hi, ofN]
      simp only [zero_of, List.cons_append]
    have en : ∀ i, i < s.length → (4 :: escS (s.take i)).length + (if ((s.getD i 0).toNat : Int) = 0 then 2 else 1) = (4 :: escS (s.take (i + 1))).length := fun i hi => by
      rw [← el i hi, List.length_append]
      congr 1
      split <;> rfl
    repeat' (refine BR.mk (fun h => ?_) (fun h => ?_) <;> try contradiction)
    · exact ⟨by decide, rfl, by decide, by decide, fun i hi => absurd hi (Nat.not_lt_zero _), all1 rfl, all1 rfl⟩
    · refine loop_fam EA2_ok mixed (σ := Nat) (fun i => i ≤ s.length) (fun i => s.length - i) 0 (Nat.zero_le _) 2 1 [2, 3, 5, 35] (fun i => [(36, .int .i64 i)]) [1] (fun i => [(0, .cells [.sl (.tok 0) (4 :: escS (s.take i)).length (strF (4 :: escS (s.take i)))])]) (fun i => [(0, (4 :: escS (s.take i)).length, 5)]) ?_ ?_ ?_ ?_
      · rfl
      · rfl
      · refine Wk.mk' rfl rfl ⟨fun _ => rfl, fun _ => trivial⟩ ?_ ?_
        repeat' (refine BR.mk (fun _ => ?_) (fun _ => ?_))
        any_goals first | exact trivial | exact Wv.any _ | (refine Wv.int ?_; with_reducible rfl) | (refine Wv.str ?_; with_reducible rfl) | (refine Wv.bool ?_; with_reducible rfl) | refine Wv.int ?_ | refine Wv.str ?_ | refine Wv.bool ?_ | exact Wv.same rfl
        · rfl
        · exact ⟨Nat.le_of_ble_eq_true rfl, .inl ⟨rfl, _, rfl, .same rfl⟩⟩
        · refine ⟨Nat.le_of_ble_eq_true rfl, .inl ⟨rfl, _, rfl, .cons (Wv.sl rfl (fun j hj => ?_) ⟨rfl, Nat.le_of_ble_eq_true rfl⟩) .nil⟩⟩
          have hj : j < 1 := hj
          obtain rfl : j = 0 := by omega
          rfl
      · intro i hi
        have w1 : IntKind.i64.wrap ((i : Int) + 1) = (i : Int) + 1 := wrap_id (by unfold i64; omega)
        repeat' (refine BR.mk (fun h => ?_) (fun h => ?_) <;> try contradiction)
        · rename_i h1; simp only [decide_eq_true_eq] at h1
          exact ⟨by omega, by omega⟩
        · rename_i h1 _; simp only [decide_eq_true_eq] at h1
          exact ⟨rfl, Nat.le_trans (lenL i hi) (by decide), isByte_str _, byte_of _⟩
        · rename_i h1 _; simp only [decide_eq_true_eq] at h1
          have hi' : i < s.length := by omega
          refine Again.fam (i + 1) (by omega) (by omega) rfl rfl rfl rfl ⟨fun _ => ?_, fun _ => trivial⟩ ?_ ?_
          · exact congrArg (fun t => some (t, 5)) (en i hi').symm
          · repeat' (refine BR.mk (fun _ => ?_) (fun _ => ?_))
            any_goals first | exact trivial | exact Wv.any _ | (refine Wv.int ?_; with_reducible rfl) | (refine Wv.str ?_; with_reducible rfl) | (refine Wv.bool ?_; with_reducible rfl) | refine Wv.int ?_ | refine Wv.str ?_ | refine Wv.bool ?_ | exact Wv.same rfl
            exact w1
          · repeat' (refine BR.mk (fun _ => ?_) (fun _ => ?_))
            any_goals first | exact trivial | exact Wv.any _ | (refine Wv.int ?_; with_reducible rfl) | (refine Wv.str ?_; with_reducible rfl) | (refine Wv.bool ?_; with_reducible rfl) | refine Wv.int ?_ | refine Wv.str ?_ | refine Wv.bool ?_ | exact Wv.same rfl
            · exact ⟨Nat.le_of_ble_eq_true rfl, .inl ⟨rfl, _, rfl, .same rfl⟩⟩
            · refine ⟨Nat.le_of_ble_eq_true rfl, .inl ⟨rfl, _, rfl, .cons (Wv.sl (en i hi') (fun j hj => ?_) ⟨rfl, Nat.le_of_ble_eq_true rfl⟩) .nil⟩⟩
              refine congrArg (fun t => strF t j) (Eq.trans ?_ (el i hi'))
              exact congrArg (fun t => t ++ _) (txtA_str (4 :: escS (s.take i)))
        · rename_i h1; simp only [decide_eq_false_iff_not] at h1
          exact ⟨rfl, by decide, rfl, by have := lenL i hi; show ((_ : Nat) + 2) * 1 ≤ _; omega, by have := lenL i hi; omega, join_len (m := 0) (g := strF []) (isByte_str _), fun j hj => by match j, hj with | 0, _ => rfl | 1, _ => rfl, fun j hj => by match j, hj with | 0, _ => rfl | 1, _ => rfl⟩
        · rename_i h1; simp only [decide_eq_false_iff_not] at h1
          obtain rfl : i = s.length := by omega
          have ef : (4 :: escS (s.take s.length)).length + 2 = (escS s).length + 3 := by rw [List.take_length]; rfl
          refine Go.Ab.Left.mk (Nat.zero_le _) ⟨[], fun _ _ => rfl, Wv.sl ef (fun j hj => ?_) ⟨rfl, Nat.le_of_ble_eq_true rfl⟩, Wk.mk' rfl rfl ⟨fun _ => congrArg (fun t => some (t, 5)) ef.symm, fun _ => trivial⟩ trivial trivial⟩
          have h2 := join_txt (n := (4 :: escS (s.take s.length)).length) (f := strF (4 :: escS (s.take s.length))) [0, 0] (isByte_str _) j (by rw [← ef] at hj; exact hj)
          refine Eq.trans (Eq.trans ?_ h2) ?_
          · by_cases hlt : j < (4 :: escS (s.take s.length)).length
            · rw [joinF_lo hlt, joinF_lo hlt]
            · rw [joinF_hi (by omega), joinF_hi (by omega)]
              have : j - (4 :: escS (s.take s.length)).length < 2 := by rw [← ef] at hj; omega
              generalize j - (4 :: escS (s.take s.length)).length = q at this
              match q, this with | 0, _ => rfl | 1, _ => rfl
          · rw [txtA_str, List.take_length]
            rfl

def vO : AV → V
  | .agg [.int .u8 k, .int .i64 n, .str s] => ⟨k, n, s⟩
  | _ => null
def isV : AV → Bool
  | .agg [.int .u8 _, .int .i64 _, .str _] => true
  | _ => false
theorem isV_eq {x : AV} (h : isV x = true) : x = encV (vO x) := by
  unfold isV at h
  split at h
  · rfl
  · cases h
def isF : AV → Bool
  | .bool b => !b
  | _ => false
theorem isF_eq {x : AV} (h : isF x = true) : x = .bool false := by
  unfold isF at h
  split at h
  · rename_i b; cases b <;> first | rfl | cases h
  · cases h
theorem rr_pc (v : V) : PC Tryz.prog GV 195 [encV v] (.bool (!right v)) := by
  refine pc_fin EA2_ok mixed (show Tryz.prog.funcs[195]? = some Tryz.f195 from rfl) ?_
  repeat' (refine BR.mk (fun h => ?_) (fun h => ?_) <;> try contradiction)
  all_goals exact Fini.mk rfl
def h_rr : List AV → CR
  | [.agg [.int .u8 k, .int .i64 n, .str s]] => .yes (.bool (!right ⟨k, n, s⟩))
  | _ => .no
theorem h_rr_ok (xs : List AV) : CRok Tryz.prog GV 195 xs (h_rr xs) := by
  unfold h_rr
  split
  · rename_i k n s
    exact rr_pc ⟨k, n, s⟩
  · trivial
def EA3 : Env := EA2.add 195 h_rr
theorem EA3_ok : EnvOk Tryz.prog EA3 := Env.add_ok EA2_ok (by kernel_rfl) h_rr_ok
def wrongI (v : V) : Int := if right v then -1 else 0
theorem ri_pc0 (v : V) : PC Tryz.prog GV 136 [.sl .no 1 (fun _ => encV v), .clo 195 [] []] (.int .i64 (wrongI v)) := by
  refine pc_fin EA3_ok mixed (show Tryz.prog.funcs[136]? = some Tryz.f136 from rfl) ?_
  refine loop_unroll EA3_ok mixed 2 ?_
  unfold wrongI
  cases hr : right v
  · repeat' (refine BR.mk (fun h => ?_) (fun h => ?_) <;> first | contradiction | ((try simp [hr] at h) <;> (first | (exfalso; omega) | skip)))
    · exact ⟨by decide, rfl, rfl⟩
    · exact Fini.mk rfl
  · repeat' (refine BR.mk (fun h => ?_) (fun h => ?_) <;> first | contradiction | ((try simp [hr] at h) <;> (first | (exfalso; omega) | skip)))
    · exact ⟨by decide, rfl, rfl⟩
    · exact Fini.mk rfl
theorem ri_pc (tag : Tag) (f : Nat → AV) (hf : isV (f 0) = true) : PC Tryz.prog GV 136 [.sl tag 1 f, .clo 195 [] []] (.int .i64 (wrongI (vO (f 0)))) := by
  refine pc_args ?_ (ri_pc0 (vO (f 0)))
  intro X vs h
  cases h with | cons h hs => exact .cons (rep_slice (fun i hi => by obtain rfl : i = 0 := by omega
                                                                     exact isV_eq hf) (rep_tag h)) hs
def h_ri : List AV → CR
  | [.sl tag n f, .clo c [] []] => .need (n = 1 ∧ c = 195 ∧ isV (f 0) = true) (.int .i64 (wrongI (vO (f 0))))
  | _ => .no
theorem h_ri_ok (xs : List AV) : CRok Tryz.prog GV 136 xs (h_ri xs) := by
  unfold h_ri
  split
  · rename_i tag n f c
    rintro ⟨rfl, rfl, hf⟩
    exact ri_pc tag f hf
  · trivial
def EA4 : Env := EA3.add 136 h_ri
theorem EA4_ok : EnvOk Tryz.prog EA4 := Env.add_ok EA3_ok (by kernel_rfl) h_ri_ok
theorem rc_pc0 (v : V) : PC Tryz.prog GV 82 [.sl .no 1 (fun _ => encV v), .clo 195 [] []] (.bool (!right v)) := by
  refine pc_fin EA4_ok mixed (show Tryz.prog.funcs[82]? = some Tryz.f82 from rfl) ?_
  repeat' (refine BR.mk (fun h => ?_) (fun h => ?_) <;> try contradiction)
  · exact ⟨rfl, rfl, rfl⟩
  · refine Fini.mk (congrArg AV.bool ?_)
    show decide (wrongI v ≥ 0) = _
    unfold wrongI
    cases right v <;> rfl
theorem rc_pc (tag : Tag) (f : Nat → AV) (hf : isV (f 0) = true) : PC Tryz.prog GV 82 [.sl tag 1 f, .clo 195 [] []] (.bool (!right (vO (f 0)))) := by
  refine pc_args ?_ (rc_pc0 (vO (f 0)))
  intro X vs h
  cases h with | cons h hs => exact .cons (rep_slice (fun i hi => by obtain rfl : i = 0 := by omega
                                                                     exact isV_eq hf) (rep_tag h)) hs
def h_rc : List AV → CR
  | [.sl tag n f, .clo c [] []] => .need (n = 1 ∧ c = 195 ∧ isV (f 0) = true) (.bool (!right (vO (f 0))))
  | _ => .no
theorem h_rc_ok (xs : List AV) : CRok Tryz.prog GV 82 xs (h_rc xs) := by
  unfold h_rc
  split
  · rename_i tag n f c
    rintro ⟨rfl, rfl, hf⟩
    exact rc_pc tag f hf
  · trivial
def EA5 : Env := EA4.add 82 h_rc
theorem EA5_ok : EnvOk Tryz.prog EA5 := Env.add_ok EA4_ok (by kernel_rfl) h_rc_ok
theorem rt_pc0 (v : V) (hr : right v = true) : PC Tryz.prog GV 165 [.sl .no 1 (fun _ => encV v)] (.int .i64 0) := by
  refine pc_fin EA5_ok mixed (show Tryz.prog.funcs[165]? = some Tryz.f165 from rfl) ?_
  repeat' (refine BR.mk (fun h => ?_) (fun h => ?_) <;> first | contradiction | ((try simp [hr] at h) <;> (first | (exfalso; omega) | skip)))
  · exact ⟨rfl, rfl, rfl⟩
  · have h : right v = false := h
    rw [hr] at h; cases h
  · exact Fini.mk rfl
theorem rt_pc (tag : Tag) (f : Nat → AV) (hf : isV (f 0) = true) (hr : right (vO (f 0)) = true) : PC Tryz.prog GV 165 [.sl tag 1 f] (.int .i64 0) := by
  refine pc_args ?_ (rt_pc0 (vO (f 0)) hr)
  intro X vs h
  cases h with | cons h hs => exact .cons (rep_slice (fun i hi => by obtain rfl : i = 0 := by omega
                                                                     exact isV_eq hf) (rep_tag h)) hs
def h_rt : List AV → CR
  | [.sl tag n f] => .need (n = 1 ∧ isV (f 0) = true ∧ right (vO (f 0)) = true) (.int .i64 0)
  | _ => .no
theorem h_rt_ok (xs : List AV) : CRok Tryz.prog GV 165 xs (h_rt xs) := by
  unfold h_rt
  split
  · rename_i tag n f
    rintro ⟨rfl, hf, hr⟩
    exact rt_pc tag f hf hr
  · trivial
def EA6_0 : Env := EA5.add 165 h_rt
theorem EA6_0_ok : EnvOk Tryz.prog EA6_0 := Env.add_ok EA5_ok (by kernel_rfl) h_rt_ok
/-! the part of a value -/
theorem part_right (v : V) (h : right v = true) : (v.k = 0 ∨ v.k = 1 ∨ v.k = 2 ∨ v.k = 3) ∧ ((v.k = 2 ∨ v.k = 3) → v.s.length ≤ 65536) := by
  unfold right at h
  by_cases h0 : v.k = 0
  · exact ⟨.inl h0, fun h => by omega⟩
  by_cases h1 : v.k = 1
  · exact ⟨.inr (.inl h1), fun h => by omega⟩
  by_cases h2 : v.k = 2 ∨ v.k = 3
  · rw [if_neg h0, if_neg h1, if_pos h2] at h
    simp only [Bool.and_eq_true, decide_eq_true_eq] at h
    exact ⟨.inr (.inr h2), fun _ => h.2⟩
  · rw [if_neg h0, if_neg h1, if_neg h2] at h; cases h
theorem key_len (v : V) (h : right v = true) : (keyV v).length ≤ 131075 := by
  obtain ⟨h1, h2⟩ := part_right v h
  have hl := highS_len (flipV v.n) 8
  unfold keyV
  by_cases h0 : v.k = 0
  · rw [if_pos h0]; decide
  rw [if_neg h0]
  by_cases h1' : v.k = 1
  · rw [if_pos h1', List.length_cons, hl]; decide
  rw [if_neg h1']
  have := h2 (by omega)
  have := escS_len v.s
  simp only [List.length_cons, List.length_append, List.length_nil]
  omega
theorem hc_part (g : Nat → AV) (v : V) (h : right v = true) : HC Tryz.prog GV 166 [.sl .nil 0 g, encV v] (St.small [] []) (.sl (.tok 0) (keyV v).length (strF (keyV v))) (kB (keyV v).length) := by
  obtain ⟨h1, h2⟩ := part_right v h
  obtain ⟨k, n, s⟩ := v
  simp only at h1 h2
  rcases h1 with rfl | rfl | h1
  · exact hc_part0 g n s
  · have e : keyV ⟨1, n, s⟩ = 2 :: highS (flipV n) 8 := rfl
    have := hc_part1 g n s
    rw [e, List.length_cons, highS_len]
    exact this
  · have e : keyV ⟨k, n, s⟩ = (if k = 2 then 3 else 4) :: (escS s ++ [0, 0]) := by
      unfold keyV
      rw [if_neg (show ¬ k = 0 by omega), if_neg (show ¬ k = 1 by omega)]
    have := hc_part2 g k n s h1 (h2 h1)
    rw [e, List.length_cons, List.length_append]
    exact this
def h_part : List AV → St → Res
  | [.sl .nil n g, .agg [.int .u8 k, .int .i64 m, .str s]], M => .need (n = 0 ∧ right ⟨k, m, s⟩ = true) (.sl (.tok M.nk) (keyV ⟨k, m, s⟩).length (strF (keyV ⟨k, m, s⟩))) (M.within (St.small [] []) (kB (keyV ⟨k, m, s⟩).length) [] [])
  | _, _ => .fail
theorem h_part_ok (xs : List AV) (m : St) : HRok Tryz.prog GV 166 xs m (h_part xs m) := by
  unfold h_part
  split
  · rename_i n g k j s
    rintro ⟨rfl, hr⟩
    exact hc_small (hc_part g ⟨k, j, s⟩ hr) [] [] (Nat.le_of_ble_eq_true rfl) (Nat.zero_le _) rfl (by simp) (by simp) trivial trivial
  · trivial
def EA6 : Env := EA6_0.addH 166 h_part
theorem EA6_ok : EnvOk Tryz.prog EA6 := Env.addH_ok EA6_0_ok (by kernel_rfl) h_part_ok
theorem key_pc0 (v : V) (h : right v = true) : PC Tryz.prog GV 116 [.sl .no 1 (fun _ => encV v), .sl .no 1 (fun _ => .bool false)] (.tup [.sl .no (keyV v).length (strF (keyV v)), .int .i64 0]) := by
  refine pc_fin EA6_ok mixed (show Tryz.prog.funcs[116]? = some Tryz.f116 from rfl) ?_
  have hl := key_len v h
  repeat' (refine BR.mk (fun q => ?_) (fun q => ?_) <;> try contradiction)
  · exact ⟨rfl, rfl, h⟩
  · refine loop_unroll EA6_ok mixed 2 ?_
    repeat' (refine BR.mk (fun q => ?_) (fun q => ?_) <;> try contradiction)
    · exact ⟨by decide, rfl, rfl⟩
    · exact ⟨rfl, h⟩
    · exact ⟨⟨by decide, by decide⟩, rfl, rfl⟩
    · have q : decide (((keyV v).length : Int) > 1048576) = true := q
      simp only [decide_eq_true_eq] at q
      omega
    · exact Fini.mk rfl
theorem key_pc (t1 t2 : Tag) (f g : Nat → AV) (hf : isV (f 0) = true) (hg : isF (g 0) = true) (h : right (vO (f 0)) = true) : PC Tryz.prog GV 116 [.sl t1 1 f, .sl t2 1 g] (.tup [.sl .no (keyV (vO (f 0))).length (strF (keyV (vO (f 0)))), .int .i64 0]) := by
  refine pc_args ?_ (key_pc0 (vO (f 0)) h)
  intro X vs h
  cases h with | cons h hs => cases hs with | cons h2 hs => exact .cons (rep_slice (fun i hi => by obtain rfl : i = 0 := by omega
                                                                                                   exact isV_eq hf) (rep_tag h)) (.cons (rep_slice (fun i hi => by obtain rfl : i = 0 := by omega
                                                                                                                                                                   exact isF_eq hg) (rep_tag h2)) hs)
def h_key : List AV → CR
  | [.sl t1 n f, .sl t2 m g] => .need (n = 1 ∧ m = 1 ∧ isV (f 0) = true ∧ isF (g 0) = true ∧ right (vO (f 0)) = true) (.tup [.sl .no (keyV (vO (f 0))).length (strF (keyV (vO (f 0)))), .int .i64 0])
  | _ => .no
theorem h_key_ok (xs : List AV) : CRok Tryz.prog GV 116 xs (h_key xs) := by
  unfold h_key
  split
  · rename_i t1 n f t2 m g
    rintro ⟨rfl, rfl, hf, hg, hr⟩
    exact key_pc t1 t2 f g hf hg hr
  · trivial
def EA7 : Env := EA6.add 116 h_key
theorem EA7_ok : EnvOk Tryz.prog EA7 := Env.add_ok EA6_ok (by kernel_rfl) h_key_ok

def lO (n : Nat) (f : Nat → AV) : List V := (List.range n).map fun i => vO (f i)
theorem lO_len (n : Nat) (f : Nat → AV) : (lO n f).length = n := by simp [lO]
def vF (l : List V) : Nat → AV := fun i => encV (l.getD i null)
theorem lO_get {n : Nat} {f : Nat → AV} (hf : ∀ i, i < n → isV (f i) = true) : ∀ i, i < n → f i = vF (lO n f) i := fun i hi => by
  rw [isV_eq (hf i hi)]
  unfold vF lO
  simp [List.getD_eq_getElem?_getD, hi]
theorem lO_vF (l : List V) : lO l.length (vF l) = l := by
  unfold lO
  refine List.ext_getElem (by simp) fun j h1 h2 => ?_
  simp only [List.getElem_map, List.getElem_range, vF]
  simp [encV, vO, h2]
theorem isV_vF (l : List V) (i : Nat) : isV (vF l i) = true := rfl
def encM (l : List (List UInt8 × Int)) : List (AV × AV) := l.map fun p => (.str p.1, .int .i64 p.2)
def numO : AV → Int
  | .int _ n => n
  | _ => 0
def sO (es : List (AV × AV)) : List (List UInt8 × Int) := es.map fun p => (strOf p.1, numO p.2)
theorem sO_enc (l : List (List UInt8 × Int)) : sO (encM l) = l := by
  unfold sO encM
  rw [List.map_map]
  exact List.map_id'' (fun _ => rfl) l
theorem keep_enc1 (mv : List (Nat × Nat)) (nx nk : Nat) (l : List (List UInt8 × Int)) : keepL mv nx nk ((encM l).map (·.1)) = true := by
  have h1 : avoidL mv ((encM l).map (·.1)) = true := by
    induction l with
    | nil => rfl
    | cons p l ih => exact ih
  have h2 : underL nx nk ((encM l).map (·.1)) = true := by
    clear h1
    induction l with
    | nil => rfl
    | cons p l ih => exact ih
  unfold keepL
  rw [h1]; exact h2
theorem keep_enc2 (mv : List (Nat × Nat)) (nx nk : Nat) (l : List (List UInt8 × Int)) : keepL mv nx nk ((encM l).map (·.2)) = true := by
  have h1 : avoidL mv ((encM l).map (·.2)) = true := by
    induction l with
    | nil => rfl
    | cons p l ih => exact ih
  have h2 : underL nx nk ((encM l).map (·.2)) = true := by
    clear h1
    induction l with
    | nil => rfl
    | cons p l ih => exact ih
  unfold keepL
  rw [h1]; exact h2
theorem under_enc1 (nx nk : Nat) (l : List (List UInt8 × Int)) : underL nx nk ((encM l).map (·.1)) = true := by
  induction l with
  | nil => rfl
  | cons p l ih => exact ih
theorem under_enc2 (nx nk : Nat) (l : List (List UInt8 × Int)) : underL nx nk ((encM l).map (·.2)) = true := by
  induction l with
  | nil => rfl
  | cons p l ih => exact ih
theorem ren_enc (ρ θ : Nat → Nat) (l : List (List UInt8 × Int)) : ((encM l).map fun p => (ren ρ θ p.1, ren ρ θ p.2)) = encM l := by
  unfold encM
  rw [List.map_map]
  rfl
theorem find_enc (k : List UInt8) : ∀ l : List (List UInt8 × Int), ∃ b, findA .str (.str k) (.int .i64 0) (encM l) = some (.int .i64 (seenN k l), b)
  | [] => ⟨false, rfl⟩
  | (x, n) :: l => by
    obtain ⟨b, hb⟩ := find_enc k l
    show ∃ b, (match some (k == x) with | some c => (match c with | true => some (AV.int .i64 n, true) | false => findA .str (.str k) (.int .i64 0) (encM l)) | none => none) = some (.int .i64 (if k = x then n else seenN k l), b)
    by_cases h : k = x
    · rw [if_pos h, show (k == x) = true from by simpa using h]; exact ⟨true, rfl⟩
    · rw [if_neg h, show (k == x) = false from by simpa using h]; exact ⟨b, hb⟩
theorem tab_ok (k : List UInt8) (l : List (List UInt8 × Int)) : tabOk .str (.str k) (.int .i64 0) .i64 (encM l) = true := by
  obtain ⟨b, hb⟩ := find_enc k l
  unfold tabOk
  rw [hb]; rfl
theorem tab_n (k : List UInt8) (l : List (List UInt8 × Int)) : tabN .str (.str k) (.int .i64 0) (encM l) = seenN k l := by
  obtain ⟨b, hb⟩ := find_enc k l
  unfold tabN
  rw [hb]
theorem put_enc (k : List UInt8) : ∀ l : List (List UInt8 × Int), putA .str (.str k) (.int .i64 (IntKind.i64.wrap (seenN k l + 1))) (encM l) = some (encM (bump k l))
  | [] => rfl
  | (x, n) :: l => by
    show (match some (k == x) with | some c => (match c with | true => some ((AV.str k, AV.int .i64 (IntKind.i64.wrap ((if k = x then n else seenN k l) + 1))) :: encM l) | false => (match putA .str (.str k) (.int .i64 (IntKind.i64.wrap ((if k = x then n else seenN k l) + 1))) (encM l) with | some l' => some ((AV.str x, AV.int .i64 n) :: l') | none => none)) | none => none) = some (encM (if k = x then (k, IntKind.i64.wrap (n + 1)) :: l else (x, n) :: bump k l))
    by_cases h : k = x
    · rw [if_pos h, if_pos h, show (k == x) = true from by simpa using h]; rfl
    · rw [if_neg h, if_neg h, show (k == x) = false from by simpa using h]
      simp only [put_enc k l]
      rfl
/-- what a total holds, in memory -/
def accC (name : List UInt8) (d : Bool) (a : Acc) : List AV := [.str name, .bool d, .int .i64 a.n, .int .u64 a.hi, .int .u64 a.lo, .int .u8 a.best.k, .int .i64 a.best.n, .str a.best.s, .sl (.tok 0) a.l.length (vF a.l), .map 1]
def aSt (name : List UInt8) (d : Bool) (a : Acc) : St := St.mk' 0 2 1 [] [(0, .cells (accC name d a)), (1, .map (encM a.seen))] [(0, a.l.length, 34)]
/-- the same, ahead of a call -/
def accP (name : List UInt8) (d : Bool) (n hi lo : Int) (b : V) (ln : Nat) (f : Nat → AV) (sn : List (List UInt8 × Int)) : List Blk :=
  [.cells [.str name, .bool d, .int .i64 n, .int .u64 hi, .int .u64 lo, .int .u8 b.k, .int .i64 b.n, .str b.s, .sl (.tok 0) ln f, .map 1], .map (encM sn)]
def accO (n hi lo : Int) (b : V) (ln : Nat) (f : Nat → AV) (sn : List (List UInt8 × Int)) : Acc := ⟨n, hi, lo, b, lO ln f, sn⟩
def EA8 : Env := { EA7 with tk := fun T => match Nat.beq T 73 with | true => some .i64 | false => none }
theorem EA8_ok : EnvOk Tryz.prog EA8 := ⟨EA7_ok.g, EA7_ok.s, EA7_ok.t, EA7_ok.h⟩
section
variable (name : List UInt8) (d : Bool) (n hi lo : Int) (b : V) (ln : Nat) (f : Nat → AV) (sn : List (List UInt8 × Int)) (hf : ∀ i, i < ln → isV (f i) = true)
include hf
/-- what is left where the list is the same -/
theorem wk_acc {u : St} (a : Acc) (hl : a.l = lO ln f) (h0 : ∃ m h1 h2 k1 k2 k3, u.h 0 = some (.cells [.str name, .bool d, .int .i64 m, .int .u64 h1, .int .u64 h2, .int .u8 k1, .int .i64 k2, .str k3, .sl (.tok 0) ln f, .map 1]) ∧ m = a.n ∧ h1 = a.hi ∧ h2 = a.lo ∧ k1 = a.best.k ∧ k2 = a.best.n ∧ k3 = a.best.s)
    (h1 : ∃ es, u.h 1 = some (.map es) ∧ es = encM a.seen) (hk : u.k 0 = some (ln, 34)) (hn : 1 ≤ u.nk) (hz : u.n = 0) : Wk [] u (aSt name d a) := by
  obtain ⟨m, x1, x2, k1, k2, k3, h0, rfl, rfl, rfl, rfl, rfl, rfl⟩ := h0
  obtain ⟨es, h1, rfl⟩ := h1
  refine Wk.mk' hz rfl ?_ trivial ?_
  · rw [show min u.nk 1 = 1 from by omega]
    exact ⟨fun _ => by rw [hk, hl, lO_len]; rfl, fun _ => trivial⟩
  · refine BR.mk (fun _ => ?_) (fun _ => BR.mk (fun _ => ?_) fun _ => trivial)
    · refine ⟨Nat.le_of_ble_eq_true rfl, .inl ⟨rfl, _, h0, ?_⟩⟩
      refine .cons (.same rfl) (.cons (.same rfl) (.cons (.same rfl) (.cons (.same rfl) (.cons (.same rfl) (.cons (.same rfl) (.cons (.same rfl) (.cons (.same rfl) (.cons (Wv.sl ?_ ?_ ⟨rfl, ?_⟩) (.cons (.same ?_) .nil)))))))))
      · rw [hl, lO_len]
      · intro i hi
        rw [hl, lO_len] at hi
        rw [hl]
        exact lO_get hf i hi
      · show 0 < min u.nk 1; omega
      · show keepV [] 2 (min u.nk 1) (.map 1) = true; rfl
    · exact ⟨Nat.le_of_ble_eq_true rfl, .inl ⟨rfl, _, h1, rfl, keep_enc1 _ _ _ _, keep_enc2 _ _ _ _⟩⟩
theorem hc_counts (v : V) (hr : right v = true) : HC Tryz.prog GV 51 [.ptr 0 0, encV v] (St.small (accP name d n hi lo b ln f sn) [(ln, 34)]) (.bool (countsS name d (accO n hi lo b ln f sn) v)) (aSt name d { accO n hi lo b ln f sn with seen := seenS name d (accO n hi lo b ln f sn) v }) := by
  have et := txtA_str (keyV v)
  by_cases h1 : name = sStar
  · have e1 : (name == [99, 111, 117, 110, 116, 42]) = true := by rw [h1]; rfl
    unfold countsS seenS
    rw [if_pos h1, if_pos h1]
    refine hc_of EA8_ok mixed (show Tryz.prog.funcs[51]? = some Tryz.f51 from rfl) (Nat.le_of_ble_eq_true rfl) (Nat.le_of_ble_eq_true rfl) ?_
    repeat' (refine BR.mk (fun h => ?_) (fun h => ?_) <;> first | contradiction | ((try simp [e1] at h) <;> (first | (exfalso; omega) | skip)))
    refine Go.Ab.Left.mk (Nat.le_of_ble_eq_true rfl) ⟨[], fun _ _ => rfl, Wv.same rfl, wk_acc name d ln f hf _ rfl ⟨_, _, _, _, _, _, rfl, rfl, rfl, rfl, rfl, rfl, rfl⟩ ⟨_, rfl, rfl⟩ rfl (Nat.le_of_ble_eq_true rfl) rfl⟩
  · have e1 : (name == [99, 111, 117, 110, 116, 42]) = false := by simpa [sStar] using h1
    unfold countsS seenS
    rw [if_neg h1, if_neg h1]
    by_cases h2 : v.k = 0
    · rw [if_pos h2, if_pos h2]
      have e2 : (v.k == 0) = true := by simpa using h2
      refine hc_of EA8_ok mixed (show Tryz.prog.funcs[51]? = some Tryz.f51 from rfl) (Nat.le_of_ble_eq_true rfl) (Nat.le_of_ble_eq_true rfl) ?_
      repeat' (refine BR.mk (fun h => ?_) (fun h => ?_) <;> first | contradiction | ((try simp [e1, e2] at h) <;> (first | (exfalso; omega) | skip)))
      refine Go.Ab.Left.mk (Nat.le_of_ble_eq_true rfl) ⟨[], fun _ _ => rfl, Wv.same rfl, wk_acc name d ln f hf _ rfl ⟨_, _, _, _, _, _, rfl, rfl, rfl, rfl, rfl, rfl, rfl⟩ ⟨_, rfl, rfl⟩ rfl (Nat.le_of_ble_eq_true rfl) rfl⟩
    · have e2 : (v.k == 0) = false := by simpa using h2
      rw [if_neg h2, if_neg h2]
      cases d with
      | false =>
        refine hc_of EA8_ok mixed (show Tryz.prog.funcs[51]? = some Tryz.f51 from rfl) (Nat.le_of_ble_eq_true rfl) (Nat.le_of_ble_eq_true rfl) ?_
        repeat' (refine BR.mk (fun h => ?_) (fun h => ?_) <;> first | contradiction | ((try simp [e1, e2] at h) <;> (first | (exfalso; omega) | skip)))
        refine Go.Ab.Left.mk (Nat.le_of_ble_eq_true rfl) ⟨[], fun _ _ => rfl, Wv.same rfl, wk_acc name false ln f hf _ rfl ⟨_, _, _, _, _, _, rfl, rfl, rfl, rfl, rfl, rfl, rfl⟩ ⟨_, rfl, rfl⟩ rfl (Nat.le_of_ble_eq_true rfl) rfl⟩
      | true =>
        refine hc_of EA8_ok mixed (show Tryz.prog.funcs[51]? = some Tryz.f51 from rfl) (Nat.le_of_ble_eq_true rfl) (Nat.le_of_ble_eq_true rfl) ?_
        have ep : putA .str (.str (txtA (keyV v).length (strF (keyV v)))) (.int .i64 (IntKind.i64.wrap (tabN .str (.str (txtA (keyV v).length (strF (keyV v)))) (.int .i64 0) (encM sn) + 1))) (encM sn) = some (encM (bump (keyV v) sn)) := by rw [et, tab_n, put_enc]
        repeat' (refine BR.mk (fun h => ?_) (fun h => ?_) <;> first | contradiction | ((try simp [e1, e2] at h) <;> (first | (exfalso; omega) | skip)))
        · exact ⟨rfl, rfl, rfl, rfl, hr⟩
        · exact (show commutes _ _ = true by kernel_rfl)
        · exact fun i hi => by show isU8 (strF (keyV v) i); trivial
        · show tabOk .str (.str (txtA (keyV v).length (strF (keyV v)))) (.int .i64 0) .i64 (encM sn) = true
          rw [et]; exact tab_ok _ _
        · show (putA .str (.str (txtA (keyV v).length (strF (keyV v)))) (.int .i64 (IntKind.i64.wrap (tabN .str (.str (txtA (keyV v).length (strF (keyV v)))) (.int .i64 0) (encM sn) + 1))) (encM sn)).isSome = true
          rw [ep]; rfl
        · exact (show commutes _ _ = true by kernel_rfl)
        · exact fun i hi => by show isU8 (strF (keyV v) i); trivial
        · show tabOk .str (.str (txtA (keyV v).length (strF (keyV v)))) (.int .i64 0) .i64 ((putA .str (.str (txtA (keyV v).length (strF (keyV v)))) (.int .i64 (IntKind.i64.wrap (tabN .str (.str (txtA (keyV v).length (strF (keyV v)))) (.int .i64 0) (encM sn) + 1))) (encM sn)).getD []) = true
          rw [ep, et]; exact tab_ok _ _
        · have er : (tabN .str (.str (txtA (keyV v).length (strF (keyV v)))) (.int .i64 0) ((putA .str (.str (txtA (keyV v).length (strF (keyV v)))) (.int .i64 (IntKind.i64.wrap (tabN .str (.str (txtA (keyV v).length (strF (keyV v)))) (.int .i64 0) (encM sn) + 1))) (encM sn)).getD []) == 1) = (seenN (keyV v) (bump (keyV v) sn) == 1) := by
            rw [ep, et]; exact congrArg (· == 1) (tab_n _ _)
          refine Go.Ab.Left.mk (Nat.le_of_ble_eq_true rfl) ⟨[], fun _ _ => rfl, Wv.bool er, wk_acc name true ln f hf _ rfl ⟨_, _, _, _, _, _, rfl, rfl, rfl, rfl, rfl, rfl, rfl⟩ ⟨_, rfl, congrArg (fun o => Option.getD o []) ep⟩ rfl (Nat.le_of_ble_eq_true rfl) rfl⟩
end

end Go.Proofs.YtejepcnoflahkaaGreatDoor
