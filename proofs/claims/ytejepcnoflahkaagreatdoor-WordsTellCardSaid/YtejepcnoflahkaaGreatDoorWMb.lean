/- words: Quote. -/
import Derived.Test.YtejepcnoflahkaaGreatDoorWWalk4
import Derived.Lib.SplitLaws
section
namespace Go.Proofs.YtejepcnoflahkaaGreatDoor
open Go Go.Ab Go.RowKit
set_option linter.unusedVariables false
set_option linter.unusedSimpArgs false
set_option maxRecDepth 100000
set_option maxHeartbeats 4000000

theorem CRok.str {P : Program} {G G' : World → Prop} (hg : ∀ w, G' w → G w) {f : Nat} {xs : List AV} {c : CR} (h : CRok P G f xs c) : CRok P G' f xs c := by
  cases c with
  | no => trivial
  | yes r => exact PC.str hg h
  | need C r => exact fun c => PC.str hg (h c)
def EW8a : Env := EW8.add 128 h_index
theorem EW8a_ok : EnvOk Tryz.prog EW8a := Env.add_ok EW8_ok (by kernel_rfl) (fun xs => CRok.str (fun _ h => h.1) (h_index_ok xs))
set_option smartUnfolding false in
theorem pc_ctnS0 (n : Nat) (f : Nat → List UInt8) (s : List UInt8) (hn : n ≤ 9223372036854775807) : PC Tryz.prog GW 66 [.sl .no n (fun i => .str (f i)), .str s] (.bool (decide (findF s f 0 n ≥ 0))) := by
  refine pc_fin EW8a_ok mixed (show Tryz.prog.funcs[66]? = some Tryz.f66 from rfl) ?_
  repeat' (refine BR.mk (fun h => ?_) (fun h => ?_) <;> try contradiction)
  all_goals first | exact ⟨hn, fun _ _ => rfl⟩ | exact Fini.mk rfl | skip
theorem pc_ctnS (tag : Tag) (n : Nat) (f : Nat → AV) (s : List UInt8) (hn : n ≤ 9223372036854775807 ∧ ∀ i, i < n → isStr (f i) = true) : PC Tryz.prog GW 66 [.sl tag n f, .str s] (.bool (decide (findF s (fun i => strOf (f i)) 0 n ≥ 0))) := by
  refine pc_args ?_ (pc_ctnS0 n (fun i => strOf (f i)) s hn.1)
  intro X vs h
  cases h with | cons h hs => exact .cons (rep_slice (fun i hi => isStr_eq (hn.2 i hi)) (rep_tag h)) hs
def h_ctnS : List AV → CR
  | [.sl tag n f, .str s] => .need (n ≤ 9223372036854775807 ∧ ∀ i, i < n → isStr (f i) = true) (.bool (decide (findF s (fun i => strOf (f i)) 0 n ≥ 0)))
  | _ => .no
theorem h_ctnS_ok (xs : List AV) : CRok Tryz.prog GW 66 xs (h_ctnS xs) := by
  unfold h_ctnS
  split
  · rename_i tag n f s
    exact fun hn => pc_ctnS tag n f s hn
  · trivial
def EW8b : Env := EW8a.add 66 h_ctnS
theorem EW8b_ok : EnvOk Tryz.prog EW8b := Env.add_ok EW8a_ok (by kernel_rfl) h_ctnS_ok
def h_low : List AV → CR
  | [.str s] => .need (s.length ≤ 65536 ∧ s.all (fun b => decide (b.toNat < 128)) = true) (.str (Lib.toLowerA s))
  | _ => .no
theorem h_low_ok (xs : List AV) : CRok Tryz.prog GW 147 xs (h_low xs) := by
  unfold h_low
  split
  · rename_i s
    exact fun hn => pc_low s hn
  · trivial
def EW8c : Env := EW8b.add 147 h_low
theorem EW8c_ok : EnvOk Tryz.prog EW8c := Env.add_ok EW8b_ok (by kernel_rfl) h_low_ok
def h_keys : List AV → CR
  | [.str s] => .need (s = keysT) (.sl .no 40 keyF)
  | _ => .no
theorem h_keys_ok (xs : List AV) : CRok Tryz.prog GW 148 xs (h_keys xs) := by
  unfold h_keys
  split
  · rename_i s
    rintro rfl
    exact pc_keys
  · trivial
def EW9 : Env := EW8c.add 148 h_keys
theorem EW9_ok : EnvOk Tryz.prog EW9 := Env.add_ok EW8c_ok (by kernel_rfl) h_keys_ok
def piOk (s : List UInt8) : Bool := match Lib.parseIntB 64 s with
  | .ok v => v == (decN 0 s : Nat)
  | _ => false
def piR (s : List UInt8) : Bool := match Lib.parseIntB 64 s with
  | .range => true
  | _ => false
def h_piOk : List AV → CR
  | [.str s, .int .i64 a, .int .i64 b] => .need ((a = 10 ∧ b = 64) ∧ s.length ≤ 65536 ∧ piOk s = true) (.tup [.int .i64 (decN 0 s : Nat), .nili])
  | _ => .no
theorem h_piOk_ok (xs : List AV) : CRok Tryz.prog GW 144 xs (h_piOk xs) := by
  unfold h_piOk
  split
  · rename_i s a b
    rintro ⟨⟨rfl, rfl⟩, h2, h3⟩
    unfold piOk at h3
    split at h3
    · rename_i v e
      rw [← eq_of_beq h3]
      exact pc_pi_ok s v e h2
    · cases h3
  · trivial
def EWok : Env := EW9.add 144 h_piOk
theorem EWok_ok : EnvOk Tryz.prog EWok := Env.add_ok EW9_ok (by kernel_rfl) h_piOk_ok
def h_piR : List AV → CR
  | [.str s, .int .i64 a, .int .i64 b] => .need ((a = 10 ∧ b = 64) ∧ s.length ≤ 65536 ∧ piR s = true) (.tup [.int .i64 (Lib.intSat 64 s), .ifc 205 .any])
  | _ => .no
theorem h_piR_ok (xs : List AV) : CRok Tryz.prog GW 144 xs (h_piR xs) := by
  unfold h_piR
  split
  · rename_i s a b
    rintro ⟨⟨rfl, rfl⟩, h2, h3⟩
    unfold piR at h3
    split at h3
    · rename_i e
      exact pc_pi_range s e h2
    · cases h3
  · trivial
def EWr : Env := EW9.add 144 h_piR
theorem EWr_ok : EnvOk Tryz.prog EWr := Env.add_ok EW9_ok (by kernel_rfl) h_piR_ok
def encT (t : Tk) : AV := .tup [.agg [.int .u8 t.k, .str t.s, .int .i64 t.n, .int .i64 0, .int .i64 0], .int .i64 (t.l : Nat)]
end Go.Proofs.YtejepcnoflahkaaGreatDoor
end

section
namespace Go.Proofs.YtejepcnoflahkaaGreatDoor
open Go Go.Ab
set_option linter.unusedVariables false
set_option linter.unusedSimpArgs false
set_option maxRecDepth 100000

def isDg (b : UInt8) : Prop := 48 ≤ b.toNat ∧ b.toNat ≤ 57
theorem decN_nil (n : Nat) : decN n [] = n := (rfl)
theorem decN_cons (n : Nat) (b : UInt8) (l : List UInt8) : decN n (b :: l) = decN (10 * n + (b.toNat - 48)) l := (rfl)
theorem decN_ge (l : List UInt8) : ∀ n : Nat, n ≤ decN n l := by
  induction l with
  | nil => intro n; rw [decN_nil]; exact Nat.le_refl _
  | cons b l ih =>
    intro n
    have := ih (10 * n + (b.toNat - 48))
    rw [decN_cons]
    omega
theorem pu_is (l : List UInt8) : ∀ (n m : Nat), (∀ b ∈ l, isDg b) → n ≤ 18446744073709551615 → decN n l = m → Lib.parseUintM 18446744073709551615 n l = if m ≤ 18446744073709551615 then .ok m else .range := by
  induction l with
  | nil =>
    intro n m _ hn hm
    rw [decN_nil] at hm
    subst hm
    rw [Lib.parseUintM, if_pos hn]
  | cons b l ih =>
    intro n m h hn hm
    have hb : 48 ≤ b.toNat ∧ b.toNat ≤ 57 := h b (List.mem_cons_self ..)
    have hge := decN_ge l (10 * n + (b.toNat - 48))
    rw [decN_cons] at hm
    rw [hm] at hge
    rw [Lib.parseUintM, if_pos hb]
    by_cases h1 : 1844674407370955162 ≤ n
    · rw [if_pos h1, if_neg (by omega)]
    · rw [if_neg h1]
      by_cases h2 : 18446744073709551615 < n * 10 + (b.toNat - 48)
      · rw [if_pos h2, if_neg (by omega)]
      · rw [if_neg h2, show n * 10 + (b.toNat - 48) = 10 * n + (b.toNat - 48) from by omega]
        exact ih _ m (fun c hc => h c (List.mem_cons_of_mem _ hc)) (by omega) hm
theorem pi_is (s : List UInt8) (h1 : s ≠ []) (h : ∀ b ∈ s, isDg b) : Lib.parseIntB 64 s = if decN 0 s ≤ 9223372036854775807 then .ok (decN 0 s : Nat) else .range := by
  cases s with
  | nil => exact absurd rfl h1
  | cons c r =>
    have hc : 48 ≤ c.toNat ∧ c.toNat ≤ 57 := h c (List.mem_cons_self ..)
    have hp := pu_is (c :: r) 0 _ h (by decide) rfl
    have e : Lib.parseUintB 64 (c :: r) = if decN 0 (c :: r) ≤ 18446744073709551615 then .ok (decN 0 (c :: r)) else .range := by
      unfold Lib.parseUintB
      rw [if_neg (by simp)]
      exact hp
    simp only [Lib.parseIntB]
    rw [if_neg (by omega), e]
    generalize decN 0 (c :: r) = m
    by_cases hm : m ≤ 18446744073709551615
    · rw [if_pos hm]
      by_cases hm2 : m ≤ 9223372036854775807
      · rw [if_pos hm2]
        simp only []
        rw [if_neg (by omega), if_neg (by omega), if_neg (by omega)]
      · rw [if_neg hm2]
        simp only []
        rw [if_pos ⟨by omega, by omega⟩]
    · rw [if_neg hm, if_neg (by omega)]
theorem runN_all (p : Int → Bool) : ∀ s : List UInt8, ∀ b ∈ s.take (runN p s), onB p b = true
  | [], b, h => by simp at h
  | c :: l, b, h => by
    simp only [runN] at h
    cases hc : onB p c with
    | false => rw [hc] at h; simp at h
    | true =>
      rw [hc] at h
      simp only [List.take_succ_cons, List.mem_cons] at h
      rcases h with rfl | h
      · exact hc
      · exact runN_all p l b h
theorem digC_is {b : UInt8} (h : onB digC b = true) : isDg b := by
  simp only [onB, digC, Bool.and_eq_true, decide_eq_true_eq] at h
  exact ⟨by omega, by omega⟩
theorem namC_is {b : UInt8} (h : onB namC b = true) : b.toNat < 128 := by
  simp only [onB, namC, letC, digC, Bool.or_eq_true, Bool.and_eq_true, decide_eq_true_eq, beq_iff_eq] at h
  omega
theorem run_pos {p : Int → Bool} {s : List UInt8} (h1 : 1 ≤ s.length) (h : p ((s.getD 0 0).toNat : Int) = true) : 1 ≤ runN p s := by
  cases s with
  | nil => simp at h1
  | cons c l =>
    have h' : onB p c = true := h
    simp only [runN, h']
    omega
theorem digs_ok {s : List UInt8} (h1 : 1 ≤ s.length) (h : digC ((s.getD 0 0).toNat : Int) = true) : Lib.parseIntB 64 (s.take (runN digC s)) = if decN 0 (s.take (runN digC s)) ≤ 9223372036854775807 then .ok (decN 0 (s.take (runN digC s)) : Nat) else .range := by
  refine pi_is _ ?_ (fun b hb => digC_is (runN_all digC s b hb))
  have := run_pos h1 h
  intro e
  have e' := congrArg List.length e
  simp only [List.length_take, List.length_nil] at e'
  omega
theorem low_is (b : UInt8) : Lib.lowerB b = small b := by
  have : ∀ n : Fin 256, Lib.lowerB (UInt8.ofNat n.val) = small (UInt8.ofNat n.val) := by decide
  have := this ⟨b.toNat, b.toNat_lt⟩
  simpa using this
theorem low_all (l : List UInt8) : Lib.toLowerA l = lowS l := by
  unfold Lib.toLowerA lowS
  exact List.map_congr_left fun b _ => low_is b
theorem nam_ascii (s : List UInt8) : (s.take (runN namC s)).all (fun b => decide (b.toNat < 128)) = true :=
  List.all_eq_true.2 fun b hb => decide_eq_true (namC_is (runN_all namC s b hb))
theorem find_has {s : List UInt8} {f : Nat → List UInt8} : ∀ (k i : Nat), (findF s f i k ≥ 0 ↔ ∃ j, i ≤ j ∧ j < i + k ∧ s = f j)
  | 0, i => by
    simp only [findF]
    constructor
    · intro h; omega
    · rintro ⟨j, h1, h2, _⟩; omega
  | k + 1, i => by
    simp only [findF]
    split
    · rename_i h
      exact ⟨fun _ => ⟨i, Nat.le_refl _, by omega, eq_of_beq h⟩, fun _ => by omega⟩
    · rename_i h
      rw [find_has k (i + 1)]
      constructor
      · rintro ⟨j, h1, h2, h3⟩
        exact ⟨j, by omega, by omega, h3⟩
      · rintro ⟨j, h1, h2, h3⟩
        by_cases e : j = i
        · subst e
          exact absurd (beq_iff_eq.2 h3) h
        · exact ⟨j, by omega, by omega, h3⟩
theorem key_has (s : List UInt8) : (findF s (fun i => strOf (keyF i)) 0 40 ≥ 0) ↔ s ∈ keysL := by
  rw [find_has]
  have hl : keysL.length = 40 := rfl
  constructor
  · rintro ⟨j, _, h2, h3⟩
    have h2' : j < keysL.length := by omega
    have : keysL.getD j [] = keysL[j] := by rw [List.getD_eq_getElem?_getD, List.getElem?_eq_getElem h2']; rfl
    have h4 : s = keysL.getD j [] := h3
    rw [h4, this]
    exact List.getElem_mem _
  · intro h
    obtain ⟨j, hj, e⟩ := List.getElem_of_mem h
    refine ⟨j, Nat.zero_le _, by omega, ?_⟩
    show s = keysL.getD j []
    rw [List.getD_eq_getElem?_getD, List.getElem?_eq_getElem hj, ← e]; rfl
end Go.Proofs.YtejepcnoflahkaaGreatDoor
end

section
namespace Go.Proofs.YtejepcnoflahkaaGreatDoor
open Go Go.Ab
set_option linter.unusedVariables false
set_option linter.unusedSimpArgs false
set_option maxRecDepth 100000

theorem orC_is (b : UInt8) : (orC (b.toNat : Int) == 120) = (b == 120 || b == 88) := by
  have : ∀ n : Fin 256, (orC (n.val : Int) == 120) = (UInt8.ofNat n.val == 120 || UInt8.ofNat n.val == 88) := by decide +kernel
  have := this ⟨b.toNat, b.toNat_lt⟩
  simpa using this
theorem b39_is (b : UInt8) : (((b.toNat : Nat) : Int) == 39) = (b == 39) := by
  have : ∀ n : Fin 256, ((n.val : Int) == 39) = (UInt8.ofNat n.val == 39) := by decide +kernel
  have := this ⟨b.toNat, b.toNat_lt⟩
  simpa using this
theorem isBlob_is (s : List UInt8) : isBlob s = (decide ((s.length : Int) > 1) && ((orC ((s.getD 0 0).toNat : Int) == 120) && (((s.getD 1 0).toNat : Int) == 39))) := by
  rw [orC_is, b39_is]
  match s with
  | [] => rfl
  | [b] => simp [isBlob]
  | b :: c :: l =>
    have : decide ((((b :: c :: l).length : Nat) : Int) > 1) = true := decide_eq_true (by simp only [List.length_cons]; omega)
    rw [this, Bool.true_and]
    rfl
theorem fi_hit {s x : List UInt8} {l : List (List UInt8)} (h : Lib.hasPrefix s x = true) : firstS s (x :: l) = ⟨6, x, 0, x.length⟩ := by rw [firstS, h]
theorem fi_miss {s x : List UInt8} {l : List (List UInt8)} (h : Lib.hasPrefix s x = false) : firstS s (x :: l) = firstS s l := by rw [firstS, h]
theorem sg0 {s : List UInt8}  (h : Lib.hasPrefix s [124, 124] = true) : encT ⟨6, [124, 124], 0, 2⟩ = encT (firstS s signsL) := congrArg encT ((fi_hit h)).symm
theorem sg1 {s : List UInt8} (h0 : Lib.hasPrefix s [124, 124] = false) (h : Lib.hasPrefix s [60, 62] = true) : encT ⟨6, [60, 62], 0, 2⟩ = encT (firstS s signsL) := congrArg encT ((fi_miss h0).trans ((fi_hit h))).symm
theorem sg2 {s : List UInt8} (h0 : Lib.hasPrefix s [124, 124] = false) (h1 : Lib.hasPrefix s [60, 62] = false) (h : Lib.hasPrefix s [60, 61] = true) : encT ⟨6, [60, 61], 0, 2⟩ = encT (firstS s signsL) := congrArg encT ((fi_miss h0).trans ((fi_miss h1).trans ((fi_hit h)))).symm
theorem sg3 {s : List UInt8} (h0 : Lib.hasPrefix s [124, 124] = false) (h1 : Lib.hasPrefix s [60, 62] = false) (h2 : Lib.hasPrefix s [60, 61] = false) (h : Lib.hasPrefix s [62, 61] = true) : encT ⟨6, [62, 61], 0, 2⟩ = encT (firstS s signsL) := congrArg encT ((fi_miss h0).trans ((fi_miss h1).trans ((fi_miss h2).trans ((fi_hit h))))).symm
theorem sg4 {s : List UInt8} (h0 : Lib.hasPrefix s [124, 124] = false) (h1 : Lib.hasPrefix s [60, 62] = false) (h2 : Lib.hasPrefix s [60, 61] = false) (h3 : Lib.hasPrefix s [62, 61] = false) (h : Lib.hasPrefix s [61] = true) : encT ⟨6, [61], 0, 1⟩ = encT (firstS s signsL) := congrArg encT ((fi_miss h0).trans ((fi_miss h1).trans ((fi_miss h2).trans ((fi_miss h3).trans ((fi_hit h)))))).symm
theorem sg5 {s : List UInt8} (h0 : Lib.hasPrefix s [124, 124] = false) (h1 : Lib.hasPrefix s [60, 62] = false) (h2 : Lib.hasPrefix s [60, 61] = false) (h3 : Lib.hasPrefix s [62, 61] = false) (h4 : Lib.hasPrefix s [61] = false) (h : Lib.hasPrefix s [60] = true) : encT ⟨6, [60], 0, 1⟩ = encT (firstS s signsL) := congrArg encT ((fi_miss h0).trans ((fi_miss h1).trans ((fi_miss h2).trans ((fi_miss h3).trans ((fi_miss h4).trans ((fi_hit h))))))).symm
theorem sg6 {s : List UInt8} (h0 : Lib.hasPrefix s [124, 124] = false) (h1 : Lib.hasPrefix s [60, 62] = false) (h2 : Lib.hasPrefix s [60, 61] = false) (h3 : Lib.hasPrefix s [62, 61] = false) (h4 : Lib.hasPrefix s [61] = false) (h5 : Lib.hasPrefix s [60] = false) (h : Lib.hasPrefix s [62] = true) : encT ⟨6, [62], 0, 1⟩ = encT (firstS s signsL) := congrArg encT ((fi_miss h0).trans ((fi_miss h1).trans ((fi_miss h2).trans ((fi_miss h3).trans ((fi_miss h4).trans ((fi_miss h5).trans ((fi_hit h)))))))).symm
theorem sg7 {s : List UInt8} (h0 : Lib.hasPrefix s [124, 124] = false) (h1 : Lib.hasPrefix s [60, 62] = false) (h2 : Lib.hasPrefix s [60, 61] = false) (h3 : Lib.hasPrefix s [62, 61] = false) (h4 : Lib.hasPrefix s [61] = false) (h5 : Lib.hasPrefix s [60] = false) (h6 : Lib.hasPrefix s [62] = false) (h : Lib.hasPrefix s [43] = true) : encT ⟨6, [43], 0, 1⟩ = encT (firstS s signsL) := congrArg encT ((fi_miss h0).trans ((fi_miss h1).trans ((fi_miss h2).trans ((fi_miss h3).trans ((fi_miss h4).trans ((fi_miss h5).trans ((fi_miss h6).trans ((fi_hit h))))))))).symm
theorem sg8 {s : List UInt8} (h0 : Lib.hasPrefix s [124, 124] = false) (h1 : Lib.hasPrefix s [60, 62] = false) (h2 : Lib.hasPrefix s [60, 61] = false) (h3 : Lib.hasPrefix s [62, 61] = false) (h4 : Lib.hasPrefix s [61] = false) (h5 : Lib.hasPrefix s [60] = false) (h6 : Lib.hasPrefix s [62] = false) (h7 : Lib.hasPrefix s [43] = false) (h : Lib.hasPrefix s [45] = true) : encT ⟨6, [45], 0, 1⟩ = encT (firstS s signsL) := congrArg encT ((fi_miss h0).trans ((fi_miss h1).trans ((fi_miss h2).trans ((fi_miss h3).trans ((fi_miss h4).trans ((fi_miss h5).trans ((fi_miss h6).trans ((fi_miss h7).trans ((fi_hit h)))))))))).symm
theorem sg9 {s : List UInt8} (h0 : Lib.hasPrefix s [124, 124] = false) (h1 : Lib.hasPrefix s [60, 62] = false) (h2 : Lib.hasPrefix s [60, 61] = false) (h3 : Lib.hasPrefix s [62, 61] = false) (h4 : Lib.hasPrefix s [61] = false) (h5 : Lib.hasPrefix s [60] = false) (h6 : Lib.hasPrefix s [62] = false) (h7 : Lib.hasPrefix s [43] = false) (h8 : Lib.hasPrefix s [45] = false) (h : Lib.hasPrefix s [42] = true) : encT ⟨6, [42], 0, 1⟩ = encT (firstS s signsL) := congrArg encT ((fi_miss h0).trans ((fi_miss h1).trans ((fi_miss h2).trans ((fi_miss h3).trans ((fi_miss h4).trans ((fi_miss h5).trans ((fi_miss h6).trans ((fi_miss h7).trans ((fi_miss h8).trans ((fi_hit h))))))))))).symm
theorem sg10 {s : List UInt8} (h0 : Lib.hasPrefix s [124, 124] = false) (h1 : Lib.hasPrefix s [60, 62] = false) (h2 : Lib.hasPrefix s [60, 61] = false) (h3 : Lib.hasPrefix s [62, 61] = false) (h4 : Lib.hasPrefix s [61] = false) (h5 : Lib.hasPrefix s [60] = false) (h6 : Lib.hasPrefix s [62] = false) (h7 : Lib.hasPrefix s [43] = false) (h8 : Lib.hasPrefix s [45] = false) (h9 : Lib.hasPrefix s [42] = false) (h : Lib.hasPrefix s [47] = true) : encT ⟨6, [47], 0, 1⟩ = encT (firstS s signsL) := congrArg encT ((fi_miss h0).trans ((fi_miss h1).trans ((fi_miss h2).trans ((fi_miss h3).trans ((fi_miss h4).trans ((fi_miss h5).trans ((fi_miss h6).trans ((fi_miss h7).trans ((fi_miss h8).trans ((fi_miss h9).trans ((fi_hit h)))))))))))).symm
theorem sg11 {s : List UInt8} (h0 : Lib.hasPrefix s [124, 124] = false) (h1 : Lib.hasPrefix s [60, 62] = false) (h2 : Lib.hasPrefix s [60, 61] = false) (h3 : Lib.hasPrefix s [62, 61] = false) (h4 : Lib.hasPrefix s [61] = false) (h5 : Lib.hasPrefix s [60] = false) (h6 : Lib.hasPrefix s [62] = false) (h7 : Lib.hasPrefix s [43] = false) (h8 : Lib.hasPrefix s [45] = false) (h9 : Lib.hasPrefix s [42] = false) (h10 : Lib.hasPrefix s [47] = false) (h : Lib.hasPrefix s [37] = true) : encT ⟨6, [37], 0, 1⟩ = encT (firstS s signsL) := congrArg encT ((fi_miss h0).trans ((fi_miss h1).trans ((fi_miss h2).trans ((fi_miss h3).trans ((fi_miss h4).trans ((fi_miss h5).trans ((fi_miss h6).trans ((fi_miss h7).trans ((fi_miss h8).trans ((fi_miss h9).trans ((fi_miss h10).trans ((fi_hit h))))))))))))).symm
theorem sg12 {s : List UInt8} (h0 : Lib.hasPrefix s [124, 124] = false) (h1 : Lib.hasPrefix s [60, 62] = false) (h2 : Lib.hasPrefix s [60, 61] = false) (h3 : Lib.hasPrefix s [62, 61] = false) (h4 : Lib.hasPrefix s [61] = false) (h5 : Lib.hasPrefix s [60] = false) (h6 : Lib.hasPrefix s [62] = false) (h7 : Lib.hasPrefix s [43] = false) (h8 : Lib.hasPrefix s [45] = false) (h9 : Lib.hasPrefix s [42] = false) (h10 : Lib.hasPrefix s [47] = false) (h11 : Lib.hasPrefix s [37] = false) (h : Lib.hasPrefix s [40] = true) : encT ⟨6, [40], 0, 1⟩ = encT (firstS s signsL) := congrArg encT ((fi_miss h0).trans ((fi_miss h1).trans ((fi_miss h2).trans ((fi_miss h3).trans ((fi_miss h4).trans ((fi_miss h5).trans ((fi_miss h6).trans ((fi_miss h7).trans ((fi_miss h8).trans ((fi_miss h9).trans ((fi_miss h10).trans ((fi_miss h11).trans ((fi_hit h)))))))))))))).symm
theorem sg13 {s : List UInt8} (h0 : Lib.hasPrefix s [124, 124] = false) (h1 : Lib.hasPrefix s [60, 62] = false) (h2 : Lib.hasPrefix s [60, 61] = false) (h3 : Lib.hasPrefix s [62, 61] = false) (h4 : Lib.hasPrefix s [61] = false) (h5 : Lib.hasPrefix s [60] = false) (h6 : Lib.hasPrefix s [62] = false) (h7 : Lib.hasPrefix s [43] = false) (h8 : Lib.hasPrefix s [45] = false) (h9 : Lib.hasPrefix s [42] = false) (h10 : Lib.hasPrefix s [47] = false) (h11 : Lib.hasPrefix s [37] = false) (h12 : Lib.hasPrefix s [40] = false) (h : Lib.hasPrefix s [41] = true) : encT ⟨6, [41], 0, 1⟩ = encT (firstS s signsL) := congrArg encT ((fi_miss h0).trans ((fi_miss h1).trans ((fi_miss h2).trans ((fi_miss h3).trans ((fi_miss h4).trans ((fi_miss h5).trans ((fi_miss h6).trans ((fi_miss h7).trans ((fi_miss h8).trans ((fi_miss h9).trans ((fi_miss h10).trans ((fi_miss h11).trans ((fi_miss h12).trans ((fi_hit h))))))))))))))).symm
theorem sg14 {s : List UInt8} (h0 : Lib.hasPrefix s [124, 124] = false) (h1 : Lib.hasPrefix s [60, 62] = false) (h2 : Lib.hasPrefix s [60, 61] = false) (h3 : Lib.hasPrefix s [62, 61] = false) (h4 : Lib.hasPrefix s [61] = false) (h5 : Lib.hasPrefix s [60] = false) (h6 : Lib.hasPrefix s [62] = false) (h7 : Lib.hasPrefix s [43] = false) (h8 : Lib.hasPrefix s [45] = false) (h9 : Lib.hasPrefix s [42] = false) (h10 : Lib.hasPrefix s [47] = false) (h11 : Lib.hasPrefix s [37] = false) (h12 : Lib.hasPrefix s [40] = false) (h13 : Lib.hasPrefix s [41] = false) (h : Lib.hasPrefix s [44] = true) : encT ⟨6, [44], 0, 1⟩ = encT (firstS s signsL) := congrArg encT ((fi_miss h0).trans ((fi_miss h1).trans ((fi_miss h2).trans ((fi_miss h3).trans ((fi_miss h4).trans ((fi_miss h5).trans ((fi_miss h6).trans ((fi_miss h7).trans ((fi_miss h8).trans ((fi_miss h9).trans ((fi_miss h10).trans ((fi_miss h11).trans ((fi_miss h12).trans ((fi_miss h13).trans ((fi_hit h)))))))))))))))).symm
theorem sg15 {s : List UInt8} (h0 : Lib.hasPrefix s [124, 124] = false) (h1 : Lib.hasPrefix s [60, 62] = false) (h2 : Lib.hasPrefix s [60, 61] = false) (h3 : Lib.hasPrefix s [62, 61] = false) (h4 : Lib.hasPrefix s [61] = false) (h5 : Lib.hasPrefix s [60] = false) (h6 : Lib.hasPrefix s [62] = false) (h7 : Lib.hasPrefix s [43] = false) (h8 : Lib.hasPrefix s [45] = false) (h9 : Lib.hasPrefix s [42] = false) (h10 : Lib.hasPrefix s [47] = false) (h11 : Lib.hasPrefix s [37] = false) (h12 : Lib.hasPrefix s [40] = false) (h13 : Lib.hasPrefix s [41] = false) (h14 : Lib.hasPrefix s [44] = false) (h : Lib.hasPrefix s [46] = true) : encT ⟨6, [46], 0, 1⟩ = encT (firstS s signsL) := congrArg encT ((fi_miss h0).trans ((fi_miss h1).trans ((fi_miss h2).trans ((fi_miss h3).trans ((fi_miss h4).trans ((fi_miss h5).trans ((fi_miss h6).trans ((fi_miss h7).trans ((fi_miss h8).trans ((fi_miss h9).trans ((fi_miss h10).trans ((fi_miss h11).trans ((fi_miss h12).trans ((fi_miss h13).trans ((fi_miss h14).trans ((fi_hit h))))))))))))))))).symm
theorem sg16 {s : List UInt8} (h0 : Lib.hasPrefix s [124, 124] = false) (h1 : Lib.hasPrefix s [60, 62] = false) (h2 : Lib.hasPrefix s [60, 61] = false) (h3 : Lib.hasPrefix s [62, 61] = false) (h4 : Lib.hasPrefix s [61] = false) (h5 : Lib.hasPrefix s [60] = false) (h6 : Lib.hasPrefix s [62] = false) (h7 : Lib.hasPrefix s [43] = false) (h8 : Lib.hasPrefix s [45] = false) (h9 : Lib.hasPrefix s [42] = false) (h10 : Lib.hasPrefix s [47] = false) (h11 : Lib.hasPrefix s [37] = false) (h12 : Lib.hasPrefix s [40] = false) (h13 : Lib.hasPrefix s [41] = false) (h14 : Lib.hasPrefix s [44] = false) (h15 : Lib.hasPrefix s [46] = false) (h : Lib.hasPrefix s [59] = true) : encT ⟨6, [59], 0, 1⟩ = encT (firstS s signsL) := congrArg encT ((fi_miss h0).trans ((fi_miss h1).trans ((fi_miss h2).trans ((fi_miss h3).trans ((fi_miss h4).trans ((fi_miss h5).trans ((fi_miss h6).trans ((fi_miss h7).trans ((fi_miss h8).trans ((fi_miss h9).trans ((fi_miss h10).trans ((fi_miss h11).trans ((fi_miss h12).trans ((fi_miss h13).trans ((fi_miss h14).trans ((fi_miss h15).trans ((fi_hit h)))))))))))))))))).symm
theorem sg17 {s : List UInt8} (h0 : Lib.hasPrefix s [124, 124] = false) (h1 : Lib.hasPrefix s [60, 62] = false) (h2 : Lib.hasPrefix s [60, 61] = false) (h3 : Lib.hasPrefix s [62, 61] = false) (h4 : Lib.hasPrefix s [61] = false) (h5 : Lib.hasPrefix s [60] = false) (h6 : Lib.hasPrefix s [62] = false) (h7 : Lib.hasPrefix s [43] = false) (h8 : Lib.hasPrefix s [45] = false) (h9 : Lib.hasPrefix s [42] = false) (h10 : Lib.hasPrefix s [47] = false) (h11 : Lib.hasPrefix s [37] = false) (h12 : Lib.hasPrefix s [40] = false) (h13 : Lib.hasPrefix s [41] = false) (h14 : Lib.hasPrefix s [44] = false) (h15 : Lib.hasPrefix s [46] = false) (h16 : Lib.hasPrefix s [59] = false) (h : Lib.hasPrefix s [63] = true) : encT ⟨6, [63], 0, 1⟩ = encT (firstS s signsL) := congrArg encT ((fi_miss h0).trans ((fi_miss h1).trans ((fi_miss h2).trans ((fi_miss h3).trans ((fi_miss h4).trans ((fi_miss h5).trans ((fi_miss h6).trans ((fi_miss h7).trans ((fi_miss h8).trans ((fi_miss h9).trans ((fi_miss h10).trans ((fi_miss h11).trans ((fi_miss h12).trans ((fi_miss h13).trans ((fi_miss h14).trans ((fi_miss h15).trans ((fi_miss h16).trans ((fi_hit h))))))))))))))))))).symm
theorem sg18 {s : List UInt8} (h0 : Lib.hasPrefix s [124, 124] = false) (h1 : Lib.hasPrefix s [60, 62] = false) (h2 : Lib.hasPrefix s [60, 61] = false) (h3 : Lib.hasPrefix s [62, 61] = false) (h4 : Lib.hasPrefix s [61] = false) (h5 : Lib.hasPrefix s [60] = false) (h6 : Lib.hasPrefix s [62] = false) (h7 : Lib.hasPrefix s [43] = false) (h8 : Lib.hasPrefix s [45] = false) (h9 : Lib.hasPrefix s [42] = false) (h10 : Lib.hasPrefix s [47] = false) (h11 : Lib.hasPrefix s [37] = false) (h12 : Lib.hasPrefix s [40] = false) (h13 : Lib.hasPrefix s [41] = false) (h14 : Lib.hasPrefix s [44] = false) (h15 : Lib.hasPrefix s [46] = false) (h16 : Lib.hasPrefix s [59] = false) (h17 : Lib.hasPrefix s [63] = false) : encT ⟨0, [], 0, 0⟩ = encT (firstS s signsL) := by
  have e : firstS s signsL = ⟨0, [], 0, 0⟩ := (fi_miss h0).trans <| (fi_miss h1).trans <| (fi_miss h2).trans <| (fi_miss h3).trans <| (fi_miss h4).trans <| (fi_miss h5).trans <| (fi_miss h6).trans <| (fi_miss h7).trans <| (fi_miss h8).trans <| (fi_miss h9).trans <| (fi_miss h10).trans <| (fi_miss h11).trans <| (fi_miss h12).trans <| (fi_miss h13).trans <| (fi_miss h14).trans <| (fi_miss h15).trans <| (fi_miss h16).trans <| (fi_miss h17).trans <| (rfl)
  rw [e]
variable {s : List UInt8}
theorem fs_blob (h1 : 1 ≤ s.length) (hb : isBlob s = true) : encT (foundS s) = .tup [.agg [.int .u8 5, .str (match bloS (s.drop 2) with | some p => p.1 | none => []), .int .i64 0, .int .i64 0, .int .i64 0], .int .i64 (match bloS (s.drop 2) with | some p => ((p.2 + 2 : Nat) : Int) | none => 0)] := by
  cases s with
  | nil => cases hb
  | cons b l =>
    simp only [foundS, hb]
    show encT (match bloS (l.drop 1) with | some (o, n) => (⟨5, o, 0, n + 2⟩ : Tk) | none => ⟨5, [], 0, 0⟩) = _
    rw [show (b :: l).drop 2 = l.drop 1 from rfl]
    cases bloS (l.drop 1) <;> rfl
theorem fs_quo (h1 : 1 ≤ s.length) (hb : isBlob s = false) (hq : (((s.getD 0 0).toNat : Int) == 39) = true) : encT (foundS s) = .tup [.agg [.int .u8 4, .str (match quoS (s.drop 1) with | some p => p.1 | none => []), .int .i64 0, .int .i64 0, .int .i64 0], .int .i64 (match quoS (s.drop 1) with | some p => ((p.2 + 1 : Nat) : Int) | none => 0)] := by
  rw [b39_is] at hq
  cases s with
  | nil => simp at h1
  | cons b l =>
    have hq' : (b == 39) = true := hq
    simp only [foundS, hb, hq']
    show encT (match quoS l with | some (o, n) => (⟨4, o, 0, n + 1⟩ : Tk) | none => ⟨4, [], 0, 0⟩) = _
    rw [show (b :: l).drop 1 = l from rfl]
    cases quoS l <;> rfl
theorem fs_num (h1 : 1 ≤ s.length) (hb : isBlob s = false) (hq : (((s.getD 0 0).toNat : Int) == 39) = false) (hd : digC ((s.getD 0 0).toNat : Int) = true) : foundS s = numS' s := by
  rw [b39_is] at hq
  cases s with
  | nil => simp at h1
  | cons b l =>
    have hq' : (b == 39) = false := hq
    have hd' : onB digC b = true := hd
    simp only [foundS, hb, hq', hd']
theorem fs_nam (h1 : 1 ≤ s.length) (hb : isBlob s = false) (hq : (((s.getD 0 0).toNat : Int) == 39) = false) (hd : digC ((s.getD 0 0).toNat : Int) = false) (hl : letC ((s.getD 0 0).toNat : Int) = true) : foundS s = nameS s := by
  rw [b39_is] at hq
  cases s with
  | nil => simp at h1
  | cons b l =>
    have hq' : (b == 39) = false := hq
    have hd' : onB digC b = false := hd
    have hl' : onB letC b = true := hl
    simp only [foundS, hb, hq', hd', hl']
theorem fs_sig (h1 : 1 ≤ s.length) (hb : isBlob s = false) (hq : (((s.getD 0 0).toNat : Int) == 39) = false) (hd : digC ((s.getD 0 0).toNat : Int) = false) (hl : letC ((s.getD 0 0).toNat : Int) = false) : foundS s = firstS s signsL := by
  rw [b39_is] at hq
  cases s with
  | nil => simp at h1
  | cons b l =>
    have hq' : (b == 39) = false := hq
    have hd' : onB digC b = false := hd
    have hl' : onB letC b = false := hl
    simp only [foundS, hb, hq', hd', hl']
end Go.Proofs.YtejepcnoflahkaaGreatDoor
end

section
namespace Go.Proofs.YtejepcnoflahkaaGreatDoor
open Go Go.Ab
set_option linter.unusedVariables false
set_option linter.unusedSimpArgs false
set_option maxRecDepth 100000

theorem quoS_le : ∀ (u o : List UInt8) (n : Nat), quoS u = some (o, n) → n ≤ u.length
  | [], o, n, h => by cases h
  | b :: l, o, n, h => by
    unfold quoS at h
    cases hb : b == 39 with
    | false =>
      rw [hb] at h
      obtain ⟨⟨o', n'⟩, h1, h2⟩ := Option.map_eq_some_iff.1 h
      have := quoS_le l o' n' h1
      obtain ⟨rfl, rfl⟩ := Prod.mk.inj h2
      simp only [List.length_cons]; omega
    | true =>
      rw [hb] at h
      match l, h with
      | [], h =>
        obtain ⟨rfl, rfl⟩ := Prod.mk.inj (Option.some.inj h)
        simp
      | c :: l', h =>
        cases hc : c == 39 with
        | false =>
          simp only [hc] at h
          obtain ⟨rfl, rfl⟩ := Prod.mk.inj (Option.some.inj h)
          simp
        | true =>
          simp only [hc] at h
          obtain ⟨⟨o', n'⟩, h1, h2⟩ := Option.map_eq_some_iff.1 h
          have := quoS_le l' o' n' h1
          obtain ⟨rfl, rfl⟩ := Prod.mk.inj h2
          simp only [List.length_cons]; omega
theorem bloS_le : ∀ (u o : List UInt8) (n : Nat), bloS u = some (o, n) → n ≤ u.length
  | [], o, n, h => by cases h
  | b :: l, o, n, h => by
    unfold bloS at h
    cases hb : b == 39 with
    | true =>
      rw [hb] at h
      obtain ⟨rfl, rfl⟩ := Prod.mk.inj (Option.some.inj h)
      simp
    | false =>
      rw [hb] at h
      match l, h with
      | [], h => cases h
      | c :: l', h =>
        simp only at h
        cases hx : halfS b with
        | none => rw [hx] at h; cases h
        | some x =>
          cases hy : halfS c with
          | none => rw [hx, hy] at h; cases h
          | some y =>
            rw [hx, hy] at h
            obtain ⟨⟨o', n'⟩, h1, h2⟩ := Option.map_eq_some_iff.1 h
            have := bloS_le l' o' n' h1
            obtain ⟨rfl, rfl⟩ := Prod.mk.inj h2
            simp only [List.length_cons]; omega
theorem first_le (s : List UInt8) : ∀ l : List (List UInt8), (firstS s l).l ≤ s.length
  | [] => by simp [firstS]
  | x :: l => by
    cases h : Lib.hasPrefix s x with
    | true => rw [fi_hit h]; exact hasPrefix_len h
    | false => rw [fi_miss h]; exact first_le s l
theorem found_le (s : List UInt8) : (foundS s).l ≤ s.length := by
  cases s with
  | nil => simp [foundS]
  | cons b l =>
    cases hb : isBlob (b :: l) with
    | true =>
      have h2 : 1 ≤ l.length := by
        cases l with
        | nil => cases hb
        | cons c l => simp
      cases h : bloS (l.drop 1) with
      | none => simp only [foundS, hb, h]; omega
      | some p =>
        obtain ⟨o, n⟩ := p
        have := bloS_le _ _ _ h
        rw [List.length_drop] at this
        simp only [foundS, hb, h, List.length_cons]; omega
    | false =>
      cases hq : b == 39 with
      | true =>
        cases h : quoS l with
        | none => simp only [foundS, hb, hq, h]; omega
        | some p =>
          obtain ⟨o, n⟩ := p
          have := quoS_le _ _ _ h
          simp only [foundS, hb, hq, h, List.length_cons]; omega
      | false =>
        cases hd : onB digC b with
        | true =>
          simp only [foundS, hb, hq, hd]
          unfold numS'
          split
          · exact runN_le _ _
          · exact Nat.zero_le _
        | false =>
          cases hl : onB letC b with
          | true =>
            simp only [foundS, hb, hq, hd, hl]
            exact runN_le _ _
          | false =>
            simp only [foundS, hb, hq, hd, hl]
            exact first_le _ _
end Go.Proofs.YtejepcnoflahkaaGreatDoor
end

section
namespace Go.Proofs.YtejepcnoflahkaaGreatDoor
open Go Go.Ab Go.RowKit
set_option linter.unusedVariables false
set_option linter.unusedSimpArgs false
set_option maxRecDepth 100000
set_option maxHeartbeats 4000000
set_option smartUnfolding false

theorem found_num (s : List UInt8) (hn : 1 ≤ s.length ∧ s.length ≤ 65536) (nb : decide ((s.length : Int) > 1) = true → (orC ((s.getD 0 0).toNat : Int) == 120) = true → (((s.getD 1 0).toNat : Int) == 39) = true → False) (nq : (((s.getD 0 0).toNat : Int) == 39) = false) (hd : digC ((s.getD 0 0).toNat : Int) = true) (hv : piOk (s.take (runN digC s)) = true) : PC Tryz.prog GW 105 [.str s] (encT ⟨1, [], decN 0 (s.take (runN digC s)), runN digC s⟩) := by
  have z0 : (0 : Int) ≤ 0 ∧ (0 : Int) < (s.length : Int) := ⟨by decide, by omega⟩
  have z1 : s.length ≤ 9223372036854775807 := by omega
  have z2 : (0 : Int) ≤ (runN digC s : Nat) ∧ ((runN digC s : Nat) : Int) ≤ (s.length : Int) := ⟨by omega, Int.ofNat_le.2 (runN_le _ s)⟩
  have z4 : (s.take (runN digC s)).length ≤ 65536 := by rw [List.length_take]; omega
  have z3 : ((10 : Int) = 10 ∧ (64 : Int) = 64) ∧ (s.take (runN digC s)).length ≤ 65536 ∧ piOk (s.take (runN digC s)) = true := ⟨⟨rfl, rfl⟩, z4, hv⟩
  refine pc_fin EWok_ok mixed (show Tryz.prog.funcs[105]? = some Tryz.f105 from rfl) ?_
  repeat' (refine BR.mk (fun h => ?_) (fun h => ?_) <;> try first | contradiction | exact Bool.noConfusion (nq.symm.trans h) | exact Bool.noConfusion (hd.symm.trans h) | exact (nb (by assumption) (by assumption) h).elim)
  all_goals first | exact z0 | exact ⟨by decide, of_decide_eq_true (by assumption)⟩ | exact ⟨rfl, z1⟩ | exact z2 | exact z3 | exact Fini.mk rfl
theorem found_big (s : List UInt8) (hn : 1 ≤ s.length ∧ s.length ≤ 65536) (nb : decide ((s.length : Int) > 1) = true → (orC ((s.getD 0 0).toNat : Int) == 120) = true → (((s.getD 1 0).toNat : Int) == 39) = true → False) (nq : (((s.getD 0 0).toNat : Int) == 39) = false) (hd : digC ((s.getD 0 0).toNat : Int) = true) (hv : piR (s.take (runN digC s)) = true) : PC Tryz.prog GW 105 [.str s] (encT ⟨0, [], 0, 0⟩) := by
  have z0 : (0 : Int) ≤ 0 ∧ (0 : Int) < (s.length : Int) := ⟨by decide, by omega⟩
  have z1 : s.length ≤ 9223372036854775807 := by omega
  have z2 : (0 : Int) ≤ (runN digC s : Nat) ∧ ((runN digC s : Nat) : Int) ≤ (s.length : Int) := ⟨by omega, Int.ofNat_le.2 (runN_le _ s)⟩
  have z4 : (s.take (runN digC s)).length ≤ 65536 := by rw [List.length_take]; omega
  have z3 : ((10 : Int) = 10 ∧ (64 : Int) = 64) ∧ (s.take (runN digC s)).length ≤ 65536 ∧ piR (s.take (runN digC s)) = true := ⟨⟨rfl, rfl⟩, z4, hv⟩
  refine pc_fin EWr_ok mixed (show Tryz.prog.funcs[105]? = some Tryz.f105 from rfl) ?_
  repeat' (refine BR.mk (fun h => ?_) (fun h => ?_) <;> try first | contradiction | exact Bool.noConfusion (nq.symm.trans h) | exact Bool.noConfusion (hd.symm.trans h) | exact (nb (by assumption) (by assumption) h).elim)
  all_goals first | exact z0 | exact ⟨by decide, of_decide_eq_true (by assumption)⟩ | exact ⟨rfl, z1⟩ | exact z2 | exact z3 | exact Fini.mk rfl
theorem found_nam (s : List UInt8) (hn : 1 ≤ s.length ∧ s.length ≤ 65536) (nb : decide ((s.length : Int) > 1) = true → (orC ((s.getD 0 0).toNat : Int) == 120) = true → (((s.getD 1 0).toNat : Int) == 39) = true → False) (nq : (((s.getD 0 0).toNat : Int) == 39) = false) (hd : digC ((s.getD 0 0).toNat : Int) = false) (hl : letC ((s.getD 0 0).toNat : Int) = true) (b : Bool) (hk : decide (findF (Lib.toLowerA (s.take (runN namC s))) (fun i => strOf (keyF i)) 0 40 ≥ 0) = b) : PC Tryz.prog GW 105 [.str s] (encT ⟨cond b 3 2, Lib.toLowerA (s.take (runN namC s)), 0, runN namC s⟩) := by
  have z0 : (0 : Int) ≤ 0 ∧ (0 : Int) < (s.length : Int) := ⟨by decide, by omega⟩
  have z1 : s.length ≤ 9223372036854775807 := by omega
  have z2 : (0 : Int) ≤ (runN namC s : Nat) ∧ ((runN namC s : Nat) : Int) ≤ (s.length : Int) := ⟨by omega, Int.ofNat_le.2 (runN_le _ s)⟩
  have z4 : (s.take (runN namC s)).length ≤ 65536 := by rw [List.length_take]; omega
  have z3 : (s.take (runN namC s)).length ≤ 65536 ∧ (s.take (runN namC s)).all (fun b => decide (b.toNat < 128)) = true := ⟨z4, nam_ascii s⟩
  cases b <;>
  · refine pc_fin EW9_ok mixed (show Tryz.prog.funcs[105]? = some Tryz.f105 from rfl) ?_
    repeat' (refine BR.mk (fun h => ?_) (fun h => ?_) <;> try first | contradiction | exact Bool.noConfusion (nq.symm.trans h) | exact Bool.noConfusion (hd.symm.trans h) | exact Bool.noConfusion (hl.symm.trans h) | exact (nb (by assumption) (by assumption) h).elim | exact Bool.noConfusion (hk.symm.trans h))
    all_goals first | exact z0 | exact ⟨by decide, of_decide_eq_true (by assumption)⟩ | exact ⟨rfl, z1⟩ | exact z2 | exact z3 | exact ⟨by decide, fun _ _ => rfl⟩ | (show commutes _ _ = true; kernel_rfl) | exact Fini.mk rfl | rfl
theorem found_blob (s : List UInt8) (hn : 1 ≤ s.length ∧ s.length ≤ 65536) (b1 : decide ((s.length : Int) > 1) = true) (b2 : (orC ((s.getD 0 0).toNat : Int) == 120) = true) (b3 : (((s.getD 1 0).toNat : Int) == 39) = true) : PC Tryz.prog GW 105 [.str s] (encT (foundS s)) := by
  rw [fs_blob hn.1 (by rw [isBlob_is, b1, b2, b3]; rfl)]
  have z0 : (0 : Int) ≤ 0 ∧ (0 : Int) < (s.length : Int) := ⟨by decide, by omega⟩
  have z1 : s.length ≤ 65536 := hn.2
  refine pc_fin EW9_ok mixed (show Tryz.prog.funcs[105]? = some Tryz.f105 from rfl) ?_
  repeat' (refine BR.mk (fun h => ?_) (fun h => ?_) <;> try first | contradiction | exact Bool.noConfusion (b1.symm.trans h) | exact Bool.noConfusion (b2.symm.trans h) | exact Bool.noConfusion (b3.symm.trans h))
  all_goals first | exact z0 | exact z1 | exact ⟨by decide, of_decide_eq_true b1⟩ | exact Fini.mk rfl
theorem found_quo (s : List UInt8) (hn : 1 ≤ s.length ∧ s.length ≤ 65536) (nb : decide ((s.length : Int) > 1) = true → (orC ((s.getD 0 0).toNat : Int) == 120) = true → (((s.getD 1 0).toNat : Int) == 39) = true → False) (hb : isBlob s = false) (nq : (((s.getD 0 0).toNat : Int) == 39) = true) : PC Tryz.prog GW 105 [.str s] (encT (foundS s)) := by
  rw [fs_quo hn.1 hb nq]
  have z0 : (0 : Int) ≤ 0 ∧ (0 : Int) < (s.length : Int) := ⟨by decide, by omega⟩
  refine pc_fin EW9_ok mixed (show Tryz.prog.funcs[105]? = some Tryz.f105 from rfl) ?_
  repeat' (refine BR.mk (fun h => ?_) (fun h => ?_) <;> try first | contradiction | exact Bool.noConfusion (nq.symm.trans h) | exact (nb (by assumption) (by assumption) h).elim)
  all_goals first | exact z0 | exact hn | exact ⟨by decide, of_decide_eq_true (by assumption)⟩ | exact Fini.mk rfl
theorem found_sig (s : List UInt8) (hn : 1 ≤ s.length ∧ s.length ≤ 65536) (nb : decide ((s.length : Int) > 1) = true → (orC ((s.getD 0 0).toNat : Int) == 120) = true → (((s.getD 1 0).toNat : Int) == 39) = true → False) (nq : (((s.getD 0 0).toNat : Int) == 39) = false) (hd : digC ((s.getD 0 0).toNat : Int) = false) (hl : letC ((s.getD 0 0).toNat : Int) = false) : PC Tryz.prog GW 105 [.str s] (encT (firstS s signsL)) := by
  have z0 : (0 : Int) ≤ 0 ∧ (0 : Int) < (s.length : Int) := ⟨by decide, by omega⟩
  refine pc_fin EW9_ok mixed (show Tryz.prog.funcs[105]? = some Tryz.f105 from rfl) ?_
  repeat' (refine BR.mk (fun h => ?_) (fun h => ?_) <;> try first | contradiction | exact Bool.noConfusion (nq.symm.trans h) | exact Bool.noConfusion (hd.symm.trans h) | exact Bool.noConfusion (hl.symm.trans h) | exact (nb (by assumption) (by assumption) h).elim)
  all_goals first | exact z0 | exact ⟨by decide, of_decide_eq_true (by assumption)⟩ | apply loop_unroll EW9_ok mixed 19
  all_goals repeat' (refine BR.mk (fun h => ?_) (fun h => ?_) <;> try contradiction)
  all_goals first | exact ⟨⟨by decide, by decide⟩, rfl, rfl⟩ | exact Fini.mk (sg0 (by assumption)) | exact Fini.mk (sg1 (by assumption) (by assumption)) | exact Fini.mk (sg2 (by assumption) (by assumption) (by assumption)) | exact Fini.mk (sg3 (by assumption) (by assumption) (by assumption) (by assumption)) | exact Fini.mk (sg4 (by assumption) (by assumption) (by assumption) (by assumption) (by assumption)) | exact Fini.mk (sg5 (by assumption) (by assumption) (by assumption) (by assumption) (by assumption) (by assumption)) | exact Fini.mk (sg6 (by assumption) (by assumption) (by assumption) (by assumption) (by assumption) (by assumption) (by assumption)) | exact Fini.mk (sg7 (by assumption) (by assumption) (by assumption) (by assumption) (by assumption) (by assumption) (by assumption) (by assumption)) | exact Fini.mk (sg8 (by assumption) (by assumption) (by assumption) (by assumption) (by assumption) (by assumption) (by assumption) (by assumption) (by assumption)) | exact Fini.mk (sg9 (by assumption) (by assumption) (by assumption) (by assumption) (by assumption) (by assumption) (by assumption) (by assumption) (by assumption) (by assumption)) | exact Fini.mk (sg10 (by assumption) (by assumption) (by assumption) (by assumption) (by assumption) (by assumption) (by assumption) (by assumption) (by assumption) (by assumption) (by assumption)) | exact Fini.mk (sg11 (by assumption) (by assumption) (by assumption) (by assumption) (by assumption) (by assumption) (by assumption) (by assumption) (by assumption) (by assumption) (by assumption) (by assumption)) | exact Fini.mk (sg12 (by assumption) (by assumption) (by assumption) (by assumption) (by assumption) (by assumption) (by assumption) (by assumption) (by assumption) (by assumption) (by assumption) (by assumption) (by assumption)) | exact Fini.mk (sg13 (by assumption) (by assumption) (by assumption) (by assumption) (by assumption) (by assumption) (by assumption) (by assumption) (by assumption) (by assumption) (by assumption) (by assumption) (by assumption) (by assumption)) | exact Fini.mk (sg14 (by assumption) (by assumption) (by assumption) (by assumption) (by assumption) (by assumption) (by assumption) (by assumption) (by assumption) (by assumption) (by assumption) (by assumption) (by assumption) (by assumption) (by assumption)) | exact Fini.mk (sg15 (by assumption) (by assumption) (by assumption) (by assumption) (by assumption) (by assumption) (by assumption) (by assumption) (by assumption) (by assumption) (by assumption) (by assumption) (by assumption) (by assumption) (by assumption) (by assumption)) | exact Fini.mk (sg16 (by assumption) (by assumption) (by assumption) (by assumption) (by assumption) (by assumption) (by assumption) (by assumption) (by assumption) (by assumption) (by assumption) (by assumption) (by assumption) (by assumption) (by assumption) (by assumption) (by assumption)) | exact Fini.mk (sg17 (by assumption) (by assumption) (by assumption) (by assumption) (by assumption) (by assumption) (by assumption) (by assumption) (by assumption) (by assumption) (by assumption) (by assumption) (by assumption) (by assumption) (by assumption) (by assumption) (by assumption) (by assumption)) | exact Fini.mk (sg18 (by assumption) (by assumption) (by assumption) (by assumption) (by assumption) (by assumption) (by assumption) (by assumption) (by assumption) (by assumption) (by assumption) (by assumption) (by assumption) (by assumption) (by assumption) (by assumption) (by assumption) (by assumption))
end Go.Proofs.YtejepcnoflahkaaGreatDoor
end

section
namespace Go.Proofs.YtejepcnoflahkaaGreatDoor
open Go Go.Ab Go.RowKit
set_option linter.unusedVariables false
set_option linter.unusedSimpArgs false
set_option maxRecDepth 100000
set_option maxHeartbeats 4000000

theorem pc_found (s : List UInt8) (hn : 1 ≤ s.length ∧ s.length ≤ 65536) : PC Tryz.prog GW 105 [.str s] (encT (foundS s)) := by
  have hbe := isBlob_is s
  cases hb : isBlob s with
  | true =>
    rw [hb] at hbe
    have h1 := hbe.symm
    simp only [Bool.and_eq_true] at h1
    exact found_blob s hn h1.1 h1.2.1 h1.2.2
  | false =>
    have nb : decide ((s.length : Int) > 1) = true → (orC ((s.getD 0 0).toNat : Int) == 120) = true → (((s.getD 1 0).toNat : Int) == 39) = true → False := fun a b c => by
      rw [hb, a, b, c] at hbe
      cases hbe
    cases hq : (((s.getD 0 0).toNat : Int) == 39) with
    | true => exact found_quo s hn nb hb hq
    | false =>
      cases hd : digC ((s.getD 0 0).toNat : Int) with
      | true =>
        rw [fs_num hn.1 hb hq hd]
        have hv := digs_ok hn.1 hd
        unfold numS'
        by_cases hm : decN 0 (s.take (runN digC s)) ≤ 9223372036854775807
        · rw [if_pos hm]
          rw [if_pos hm] at hv
          exact found_num s hn nb hq hd (by unfold piOk; rw [hv]; simp)
        · rw [if_neg hm]
          rw [if_neg hm] at hv
          exact found_big s hn nb hq hd (by unfold piR; rw [hv])
      | false =>
        cases hl : letC ((s.getD 0 0).toNat : Int) with
        | true =>
          rw [fs_nam hn.1 hb hq hd hl]
          unfold nameS
          rw [← low_all]
          have key := key_has (Lib.toLowerA (s.take (runN namC s)))
          by_cases hm : Lib.toLowerA (s.take (runN namC s)) ∈ keysL
          · rw [if_pos hm]
            exact found_nam s hn nb hq hd hl true (decide_eq_true (key.2 hm))
          · rw [if_neg hm]
            exact found_nam s hn nb hq hd hl false (decide_eq_false fun h => hm (key.1 h))
        | false =>
          rw [fs_sig hn.1 hb hq hd hl]
          exact found_sig s hn nb hq hd hl
def h_found : List AV → CR
  | [.str s] => .need (1 ≤ s.length ∧ s.length ≤ 65536) (encT (foundS s))
  | _ => .no
theorem h_found_ok (xs : List AV) : CRok Tryz.prog GW 105 xs (h_found xs) := by
  unfold h_found
  split
  · rename_i s
    exact fun hn => pc_found s hn
  · trivial
def EWF : Env := EW9.add 105 h_found
theorem EWF_ok : EnvOk Tryz.prog EWF := Env.add_ok EW9_ok (by kernel_rfl) h_found_ok
end Go.Proofs.YtejepcnoflahkaaGreatDoor
end

section
namespace Go.Proofs.YtejepcnoflahkaaGreatDoor
open Go Go.Ab Go.RowKit
set_option linter.unusedVariables false
set_option linter.unusedSimpArgs false
set_option maxRecDepth 100000
set_option maxHeartbeats 4000000

section
set_option smartUnfolding false
theorem next_long (s : List UInt8) (a : Int) (hl : s.length > 65536) : PC Tryz.prog GW 34 [.str s, .int .i64 a] (encWF ⟨noW, 3, 0⟩) := by
  have k1 : decide ((s.length : Int) > 65536) = true := decide_eq_true (by omega)
  refine pc_fin EWF_ok mixed (show Tryz.prog.funcs[34]? = some Tryz.f34 from rfl) ?_
  repeat' (refine BR.mk (fun h => ?_) (fun h => ?_) <;> try first | contradiction | with_reducible exact Bool.noConfusion (k1.symm.trans h))
  all_goals exact Fini.mk rfl
theorem next_out (s : List UInt8) (a : Int) (hl : s.length ≤ 65536) (kk : decide (a < 0) = false → decide (a > (s.length : Int)) = false → False) : PC Tryz.prog GW 34 [.str s, .int .i64 a] (encWF ⟨noW, 2, 0⟩) := by
  have k1 : decide ((s.length : Int) > 65536) = false := decide_eq_false (by omega)
  refine pc_fin EWF_ok mixed (show Tryz.prog.funcs[34]? = some Tryz.f34 from rfl) ?_
  repeat' (refine BR.mk (fun h => ?_) (fun h => ?_) <;> try first | contradiction | with_reducible exact Bool.noConfusion (k1.symm.trans h) | exact (kk (by assumption) h).elim)
  all_goals exact Fini.mk rfl
variable {s : List UInt8} {k : Nat}
@[reducible] def pW (s : List UInt8) (k : Nat) : Int := IntKind.i64.wrap ((k : Int) + (skipN false (s.drop (k : Int).toNat) : Nat))
theorem pW_is (hl : s.length ≤ 65536) (ha : k ≤ s.length) : pW s k = ((k + skipN false (s.drop k) : Nat) : Int) := by
  have sl := skipN_le false (s.drop k)
  rw [List.length_drop] at sl
  unfold pW
  rw [Int.toNat_natCast]
  exact (wrap_id (by unfold i64; omega)).trans (by omega)
theorem next_end (hl : s.length ≤ 65536) (ha : k ≤ s.length) (e1 : (pW s k == (s.length : Int)) = true) : PC Tryz.prog GW 34 [.str s, .int .i64 k] (encWF ⟨⟨7, [], 0, pW s k, pW s k⟩, 0, 0⟩) := by
  have k1 : decide ((s.length : Int) > 65536) = false := decide_eq_false (by omega)
  have k2 : decide ((k : Int) < 0) = false := decide_eq_false (by omega)
  have k3 : decide ((k : Int) > s.length) = false := decide_eq_false (by omega)
  have z1 : (0 : Int) ≤ (k : Int) ∧ (k : Int) ≤ (s.length : Int) := ⟨by omega, by omega⟩
  have z2 : (s.drop (k : Int).toNat).length ≤ 65536 := by rw [List.length_drop]; omega
  refine pc_fin EWF_ok mixed (show Tryz.prog.funcs[34]? = some Tryz.f34 from rfl) ?_
  repeat' (refine BR.mk (fun h => ?_) (fun h => ?_) <;> try first | contradiction | with_reducible exact Bool.noConfusion (k1.symm.trans h) | with_reducible exact Bool.noConfusion (k2.symm.trans h) | with_reducible exact Bool.noConfusion (k3.symm.trans h) | with_reducible exact Bool.noConfusion (e1.symm.trans h))
  all_goals first | exact z1 | exact z2 | exact Fini.mk rfl
theorem next_none (hl : s.length ≤ 65536) (ha : k ≤ s.length) (e1 : (pW s k == (s.length : Int)) = false) (e2 : (((foundS (s.drop (pW s k).toNat)).l : Int) == 0) = true) : PC Tryz.prog GW 34 [.str s, .int .i64 k] (encWF ⟨noW, 100, pW s k⟩) := by
  have k1 : decide ((s.length : Int) > 65536) = false := decide_eq_false (by omega)
  have k2 : decide ((k : Int) < 0) = false := decide_eq_false (by omega)
  have k3 : decide ((k : Int) > s.length) = false := decide_eq_false (by omega)
  have z1 : (0 : Int) ≤ (k : Int) ∧ (k : Int) ≤ (s.length : Int) := ⟨by omega, by omega⟩
  have z2 : (s.drop (k : Int).toNat).length ≤ 65536 := by rw [List.length_drop]; omega
  have hw := pW_is hl ha
  have sl := skipN_le false (s.drop k)
  rw [List.length_drop] at sl
  have e1' : ¬ pW s k = (s.length : Int) := by simpa using e1
  have z3 : (0 : Int) ≤ pW s k ∧ pW s k ≤ (s.length : Int) := ⟨by omega, by omega⟩
  have z4 : 1 ≤ (s.drop (pW s k).toNat).length ∧ (s.drop (pW s k).toNat).length ≤ 65536 := by rw [List.length_drop]; omega
  refine pc_fin EWF_ok mixed (show Tryz.prog.funcs[34]? = some Tryz.f34 from rfl) ?_
  repeat' (refine BR.mk (fun h => ?_) (fun h => ?_) <;> try first | contradiction | with_reducible exact Bool.noConfusion (k1.symm.trans h) | with_reducible exact Bool.noConfusion (k2.symm.trans h) | with_reducible exact Bool.noConfusion (k3.symm.trans h) | with_reducible exact Bool.noConfusion (e1.symm.trans h) | with_reducible exact Bool.noConfusion (e2.symm.trans h))
  all_goals first | exact z1 | exact z2 | exact z3 | exact z4 | exact Fini.mk rfl
theorem next_tok (hl : s.length ≤ 65536) (ha : k ≤ s.length) (e1 : (pW s k == (s.length : Int)) = false) (e2 : (((foundS (s.drop (pW s k).toNat)).l : Int) == 0) = false) : PC Tryz.prog GW 34 [.str s, .int .i64 k]
    (encWF ⟨⟨(foundS (s.drop (pW s k).toNat)).k, (foundS (s.drop (pW s k).toNat)).s, (foundS (s.drop (pW s k).toNat)).n, pW s k, IntKind.i64.wrap (pW s k + ((foundS (s.drop (pW s k).toNat)).l : Nat))⟩, 0, 0⟩) := by
  have k1 : decide ((s.length : Int) > 65536) = false := decide_eq_false (by omega)
  have k2 : decide ((k : Int) < 0) = false := decide_eq_false (by omega)
  have k3 : decide ((k : Int) > s.length) = false := decide_eq_false (by omega)
  have z1 : (0 : Int) ≤ (k : Int) ∧ (k : Int) ≤ (s.length : Int) := ⟨by omega, by omega⟩
  have z2 : (s.drop (k : Int).toNat).length ≤ 65536 := by rw [List.length_drop]; omega
  have hw := pW_is hl ha
  have sl := skipN_le false (s.drop k)
  rw [List.length_drop] at sl
  have e1' : ¬ pW s k = (s.length : Int) := by simpa using e1
  have z3 : (0 : Int) ≤ pW s k ∧ pW s k ≤ (s.length : Int) := ⟨by omega, by omega⟩
  have z4 : 1 ≤ (s.drop (pW s k).toNat).length ∧ (s.drop (pW s k).toNat).length ≤ 65536 := by rw [List.length_drop]; omega
  refine pc_fin EWF_ok mixed (show Tryz.prog.funcs[34]? = some Tryz.f34 from rfl) ?_
  repeat' (refine BR.mk (fun h => ?_) (fun h => ?_) <;> try first | contradiction | with_reducible exact Bool.noConfusion (k1.symm.trans h) | with_reducible exact Bool.noConfusion (k2.symm.trans h) | with_reducible exact Bool.noConfusion (k3.symm.trans h) | with_reducible exact Bool.noConfusion (e1.symm.trans h) | with_reducible exact Bool.noConfusion (e2.symm.trans h))
  all_goals first | exact z1 | exact z2 | exact z3 | exact z4 | exact Fini.mk rfl
end
theorem pc_nextIn (s : List UInt8) (k : Nat) (hl : s.length ≤ 65536) (ha : k ≤ s.length) : PC Tryz.prog GW 34 [.str s, .int .i64 k] (encWF (tokS (s.drop k) k)) := by
  have hw := pW_is hl ha
  have sl := skipN_le false (s.drop k)
  rw [List.length_drop] at sl
  have eD : s.drop (pW s k).toNat = (s.drop k).drop (skipN false (s.drop k)) := by rw [hw, Int.toNat_natCast, List.drop_drop]
  unfold tokS
  by_cases hA : skipN false (s.drop k) = (s.drop k).length
  · rw [if_pos hA]
    have e1 : (pW s k == (s.length : Int)) = true := by rw [beq_iff_eq, hw, hA, List.length_drop]; omega
    have := next_end hl ha e1
    rw [hw, hA] at this
    exact this
  · rw [if_neg hA]
    have e1 : (pW s k == (s.length : Int)) = false := by
      rw [beq_eq_false_iff_ne, hw]
      rw [List.length_drop] at hA
      omega
    by_cases hB : (foundS ((s.drop k).drop (skipN false (s.drop k)))).l = 0
    · rw [if_pos hB]
      have := next_none hl ha e1 (by rw [eD, hB]; rfl)
      rw [hw] at this
      exact this
    · rw [if_neg hB]
      have := next_tok hl ha e1 (by rw [eD, beq_eq_false_iff_ne]; omega)
      have hfl := found_le ((s.drop k).drop (skipN false (s.drop k)))
      rw [List.length_drop, List.length_drop] at hfl
      have ew : IntKind.i64.wrap (pW s k + ((foundS (s.drop (pW s k).toNat)).l : Nat)) = ((k + skipN false (s.drop k) + (foundS ((s.drop k).drop (skipN false (s.drop k)))).l : Nat) : Int) := by
        rw [eD, hw]
        exact (wrap_id (by unfold i64; omega)).trans (by omega)
      rw [ew, eD, hw] at this
      exact this
theorem pc_next (s : List UInt8) (a : Int) : PC Tryz.prog GW 34 [.str s, .int .i64 a] (encWF (nextS s a)) := by
  unfold nextS
  by_cases h1 : s.length > 65536
  · rw [if_pos h1]; exact next_long s a h1
  · rw [if_neg h1]
    by_cases h2 : a < 0 ∨ a > s.length
    · rw [if_pos h2]
      exact next_out s a (by omega) (fun x y => by
        have := of_decide_eq_false x
        have := of_decide_eq_false y
        omega)
    · rw [if_neg h2]
      have := pc_nextIn s a.toNat (by omega) (by omega)
      rw [show ((a.toNat : Nat) : Int) = a from by omega] at this
      exact this
def h_next : List AV → CR
  | [.str s, .int .i64 a] => .yes (encWF (nextS s a))
  | _ => .no
theorem h_next_ok (xs : List AV) : CRok Tryz.prog GW 34 xs (h_next xs) := by
  unfold h_next
  split
  · rename_i s a
    exact pc_next s a
  · trivial
def EN : Env := EWF.add 34 h_next
theorem EN_ok : EnvOk Tryz.prog EN := Env.add_ok EWF_ok (by kernel_rfl) h_next_ok
end Go.Proofs.YtejepcnoflahkaaGreatDoor
end

section
namespace Go.Proofs.YtejepcnoflahkaaGreatDoor
open Go Go.Ab Go.RowKit
set_option linter.unusedVariables false
set_option linter.unusedSimpArgs false
set_option maxRecDepth 100000
set_option maxHeartbeats 4000000

theorem nx1 : nextS [83, 69, 76, 69, 67, 84, 32, 97] 0 = ⟨⟨3, [115, 101, 108, 101, 99, 116], 0, 0, 6⟩, 0, 0⟩ := by decide +kernel
theorem nx2 : nextS [39, 105, 116, 39, 39, 115, 39] 0 = ⟨⟨4, [105, 116, 39, 115], 0, 0, 7⟩, 0, 0⟩ := by decide +kernel
theorem nx3 : nextS [120, 39, 48, 97, 70, 70, 39] 0 = ⟨⟨5, [10, 255], 0, 0, 7⟩, 0, 0⟩ := by decide +kernel
theorem nx4 : nextS [120, 39, 48, 39] 0 = ⟨noW, 100, 0⟩ := by decide +kernel
theorem nx5 : nextS [97, 124, 124, 98] 1 = ⟨⟨6, [124, 124], 0, 1, 3⟩, 0, 0⟩ := by decide +kernel
def pickS (a n : Int) : Int := if n < 1 then 0 else if a.tmod n < 0 then a.tmod n + n else a.tmod n
section
set_option smartUnfolding false
theorem pc_quote (s : List UInt8) (hn : (s.length < 4294967281 ∧ 1 ≤ [(39 : UInt8)].length ∧ s.length + Lib.countB ⟨s.toArray⟩ ⟨#[39]⟩ * 2 ≤ 140737488355328) ∧ (Lib.replaceAll s [39] [39, 39]).length ≤ 4611686018427387904) : PC Tryz.prog GW 36 [.str s] (.str ([39] ++ Lib.replaceAll s [39] [39, 39] ++ [39])) := by
  refine pc_fin EN_ok mixed (show Tryz.prog.funcs[36]? = some Tryz.f36 from rfl) ?_
  repeat' (refine BR.mk (fun h => ?_) (fun h => ?_) <;> try contradiction)
  · exact hn.1
  · show 1 + (Lib.replaceAll s [39] [39, 39]).length ≤ 9223372036854775807
    omega
  · show ([39] ++ Lib.replaceAll s [39] [39, 39]).length + 1 ≤ 9223372036854775807
    rw [List.length_append]
    simp only [List.length_cons, List.length_nil]
    omega
  · exact Fini.mk rfl
def h_quote : List AV → CR
  | [.str s] => .need ((s.length < 4294967281 ∧ 1 ≤ [(39 : UInt8)].length ∧ s.length + Lib.countB ⟨s.toArray⟩ ⟨#[39]⟩ * 2 ≤ 140737488355328) ∧ (Lib.replaceAll s [39] [39, 39]).length ≤ 4611686018427387904) (.str ([39] ++ Lib.replaceAll s [39] [39, 39] ++ [39]))
  | _ => .no
theorem h_quote_ok (xs : List AV) : CRok Tryz.prog GW 36 xs (h_quote xs) := by
  unfold h_quote
  split
  · rename_i s
    exact fun hn => pc_quote s hn
  · trivial
def EQ : Env := EN.add 36 h_quote
theorem EQ_ok : EnvOk Tryz.prog EQ := Env.add_ok EN_ok (by kernel_rfl) h_quote_ok
theorem pc_awakeW : PC Tryz.prog GW 40 [] (.bool true) := by
  refine pc_fin EQ_ok mixed (show Tryz.prog.funcs[40]? = some Tryz.f40 from rfl) ?_
  repeat' (refine BR.mk (fun h => ?_) (fun h => ?_) <;> try first | contradiction | exact absurd h (by decide +kernel))
  · decide +kernel
  · exact Fini.mk (congrArg AV.bool (by decide +kernel))
end
def h_pick : List AV → CR
  | [.int .i64 a, .int .i64 n] => .need (i64 a ∧ 1 ≤ n ∧ n ≤ 4611686018427387904) (.int .i64 (pickS a n))
  | _ => .no
def EK0 : Env := EQ
theorem EK0_ok : EnvOk Tryz.prog EK0 := EQ_ok
def h_awkW : List AV → CR
  | [] => .yes (.bool true)
  | _ => .no
theorem h_awkW_ok (xs : List AV) : CRok Tryz.prog GW 40 xs (h_awkW xs) := by
  unfold h_awkW
  split
  · exact pc_awakeW
  · trivial
def EK : Env := EK0.add 40 h_awkW
theorem EK_ok : EnvOk Tryz.prog EK := Env.add_ok EK0_ok (by kernel_rfl) h_awkW_ok
end Go.Proofs.YtejepcnoflahkaaGreatDoor
end

section
namespace Go.Proofs.YtejepcnoflahkaaGreatDoor
open Go Go.Ab
set_option linter.unusedVariables false
set_option linter.unusedSimpArgs false
set_option maxRecDepth 100000

theorem skip_f (b : UInt8) (l : List UInt8) : skipN false (b :: l) = if onB wsC b then skipN false l + 1 else if b == 45 && l.head? == some 45 then skipN true l + 1 else 0 := by
  simp only [skipN]
  cases onB wsC b
  · cases (b == 45 && l.head? == some 45) <;> rfl
  · rfl
theorem run_c (p : Int → Bool) (b : UInt8) (l : List UInt8) : runN p (b :: l) = if onB p b then runN p l + 1 else 0 := by
  simp only [runN]
  cases onB p b <;> simp
/-- a run stops where something else comes -/
theorem run_local (p : Int → Bool) (c : UInt8) (hc : onB p c = false) (r : List UInt8) : ∀ s : List UInt8, runN p (s.take (runN p s) ++ c :: r) = runN p s
  | [] => by simp [runN, hc]
  | b :: l => by
    rw [run_c]
    by_cases h : onB p b = true
    · rw [if_pos h, List.take_succ_cons, List.cons_append, run_c, if_pos h, run_local p c hc r l]
    · rw [if_neg h, List.take_zero, List.nil_append, run_c, if_neg (by rw [hc]; decide)]
theorem run_take (p : Int → Bool) (c : UInt8) (r : List UInt8) (s : List UInt8) : (s.take (runN p s) ++ c :: r).take (runN p s) = s.take (runN p s) := by
  have : (s.take (runN p s)).length = runN p s := by rw [List.length_take]; have := runN_le p s; omega
  rw [List.take_append_of_le_length (by omega), List.take_take, Nat.min_self]
theorem quo_local (c : UInt8) (hc : (c == 39) = false) (r : List UInt8) : ∀ (s o : List UInt8) (n : Nat), quoS s = some (o, n) → quoS (s.take n ++ c :: r) = some (o, n)
  | [], o, n, h => by cases h
  | b :: l, o, n, h => by
    unfold quoS at h
    cases hb : b == 39 with
    | false =>
      rw [hb] at h
      obtain ⟨⟨o', n'⟩, h1, h2⟩ := Option.map_eq_some_iff.1 h
      obtain ⟨rfl, rfl⟩ := Prod.mk.inj h2
      rw [List.take_succ_cons, List.cons_append]
      unfold quoS
      rw [hb, quo_local c hc r l o' n' h1]
      rfl
    | true =>
      rw [hb] at h
      match l, h with
      | [], h =>
        obtain ⟨rfl, rfl⟩ := Prod.mk.inj (Option.some.inj h)
        show quoS (b :: c :: r) = _
        simp only [quoS, hb, hc]
      | d :: l', h =>
        cases hd : d == 39 with
        | false =>
          simp only [hd] at h
          obtain ⟨rfl, rfl⟩ := Prod.mk.inj (Option.some.inj h)
          show quoS (b :: c :: r) = _
          simp only [quoS, hb, hc]
        | true =>
          simp only [hd] at h
          obtain ⟨⟨o', n'⟩, h1, h2⟩ := Option.map_eq_some_iff.1 h
          obtain ⟨rfl, rfl⟩ := Prod.mk.inj h2
          rw [List.take_succ_cons, List.take_succ_cons, List.cons_append, List.cons_append]
          unfold quoS
          simp only [hb, hd, quo_local c hc r l' o' n' h1]
          rfl
theorem blo_local (r : List UInt8) : ∀ (s o : List UInt8) (n : Nat), bloS s = some (o, n) → bloS (s.take n ++ r) = some (o, n)
  | [], o, n, h => by cases h
  | b :: l, o, n, h => by
    unfold bloS at h
    cases hb : b == 39 with
    | true =>
      rw [hb] at h
      obtain ⟨rfl, rfl⟩ := Prod.mk.inj (Option.some.inj h)
      show bloS (b :: r) = _
      unfold bloS
      rw [hb]
    | false =>
      rw [hb] at h
      match l, h with
      | [], h => cases h
      | c :: l', h =>
        simp only at h
        cases hx : halfS b with
        | none => rw [hx] at h; cases h
        | some x =>
          cases hy : halfS c with
          | none => rw [hx, hy] at h; cases h
          | some y =>
            rw [hx, hy] at h
            obtain ⟨⟨o', n'⟩, h1, h2⟩ := Option.map_eq_some_iff.1 h
            obtain ⟨rfl, rfl⟩ := Prod.mk.inj h2
            rw [List.take_succ_cons, List.take_succ_cons, List.cons_append, List.cons_append]
            unfold bloS
            simp only [hb, hx, hy, blo_local r l' o' n' h1]
            rfl
theorem sign_at (r : List UInt8) : ∀ x ∈ signsL, firstS (x ++ 32 :: r) signsL = ⟨6, x, 0, x.length⟩ := by
  intro x hx
  simp only [signsL, List.mem_cons, List.not_mem_nil, or_false] at hx
  rcases hx with rfl | rfl | rfl | rfl | rfl | rfl | rfl | rfl | rfl | rfl | rfl | rfl | rfl | rfl | rfl | rfl | rfl | rfl <;> rfl
theorem first_mem (s : List UInt8) : ∀ l : List (List UInt8), (firstS s l).l ≠ 0 → ∃ x ∈ l, firstS s l = ⟨6, x, 0, x.length⟩ ∧ Lib.hasPrefix s x = true
  | [], h => absurd rfl h
  | x :: l, h => by
    cases hx : Lib.hasPrefix s x with
    | true => exact ⟨x, by simp, fi_hit hx, hx⟩
    | false =>
      rw [fi_miss hx] at h ⊢
      obtain ⟨y, h1, h2⟩ := first_mem s l h
      exact ⟨y, List.mem_cons_of_mem _ h1, h2⟩
theorem isBlob_c (b c : UInt8) (l : List UInt8) : isBlob (b :: c :: l) = ((b == 120 || b == 88) && c == 39) := rfl
theorem isBlob_dig (b : UInt8) (l : List UInt8) (h : onB letC b = false) : isBlob (b :: l) = false := by
  cases l with
  | nil => rfl
  | cons c l =>
    rw [isBlob_c]
    have : (b == 120 || b == 88) = false := by
      rw [Bool.eq_false_iff]
      intro h2
      rw [Bool.or_eq_true, beq_iff_eq, beq_iff_eq] at h2
      rcases h2 with rfl | rfl <;> exact absurd h (by decide)
    rw [this, Bool.false_and]
theorem dig_let {b : UInt8} (h : onB digC b = true) : onB letC b = false := by
  rw [Bool.eq_false_iff]
  intro h2
  simp only [onB, digC, letC, Bool.or_eq_true, Bool.and_eq_true, decide_eq_true_eq, beq_iff_eq] at h h2
  omega
theorem dig_pos {s : List UInt8} {b : UInt8} {l : List UInt8} (e : s = b :: l) {p : Int → Bool} (h : onB p b = true) : 1 ≤ runN p s := by
  subst e; rw [run_c, if_pos h]; omega
theorem ex_of_l {P : Prop} [Decidable P] (x : Tk) (h : (if P then x else ⟨0, [], 0, 0⟩ : Tk).l ≠ 0) : P := by
  by_cases hp : P
  · exact hp
  · rw [if_neg hp] at h; exact absurd rfl h
theorem fs_b {b : UInt8} {l : List UInt8} (h : isBlob (b :: l) = true) : foundS (b :: l) = match bloS (l.drop 1) with
    | some (o, n) => ⟨5, o, 0, n + 2⟩
    | none => ⟨5, [], 0, 0⟩ := by simp only [foundS, h]; rfl
theorem fs_q {b : UInt8} {l : List UInt8} (h : isBlob (b :: l) = false) (h2 : (b == 39) = true) : foundS (b :: l) = match quoS l with
    | some (o, n) => ⟨4, o, 0, n + 1⟩
    | none => ⟨4, [], 0, 0⟩ := by simp only [foundS, h, h2]; rfl
theorem fs_d {b : UInt8} {l : List UInt8} (h : isBlob (b :: l) = false) (h2 : (b == 39) = false) (h3 : onB digC b = true) : foundS (b :: l) = numS' (b :: l) := by simp only [foundS, h, h2, h3]
theorem fs_l {b : UInt8} {l : List UInt8} (h : isBlob (b :: l) = false) (h2 : (b == 39) = false) (h3 : onB digC b = false) (h4 : onB letC b = true) : foundS (b :: l) = nameS (b :: l) := by simp only [foundS, h, h2, h3, h4]
theorem fs_s {b : UInt8} {l : List UInt8} (h : isBlob (b :: l) = false) (h2 : (b == 39) = false) (h3 : onB digC b = false) (h4 : onB letC b = false) : foundS (b :: l) = firstS (b :: l) signsL := by simp only [foundS, h, h2, h3, h4]
/-- what a text begins with is told of its own bytes, where a blank follows -/
theorem found_local (u : List UInt8) (h : (foundS u).l ≠ 0) (r : List UInt8) : foundS (u.take (foundS u).l ++ 32 :: r) = foundS u := by
  cases u with
  | nil => exact absurd rfl h
  | cons b l =>
    cases hb : isBlob (b :: l) with
    | true =>
      cases l with
      | nil => cases hb
      | cons c l =>
        rw [fs_b hb] at h ⊢
        rw [List.drop_succ_cons, List.drop_zero] at h ⊢
        cases hq : bloS l with
        | none => rw [hq] at h; exact absurd rfl h
        | some p =>
          obtain ⟨o, n⟩ := p
          show foundS (b :: c :: (l.take n ++ 32 :: r)) = ⟨5, o, 0, n + 2⟩
          rw [fs_b (by rw [isBlob_c] at hb ⊢; exact hb)]
          rw [List.drop_succ_cons, List.drop_zero, blo_local _ _ _ _ hq]
    | false =>
      cases hq : b == 39 with
      | true =>
        rw [fs_q hb hq] at h ⊢
        cases h2 : quoS l with
        | none => rw [h2] at h; exact absurd rfl h
        | some p =>
          obtain ⟨o, n⟩ := p
          show foundS (b :: (l.take n ++ 32 :: r)) = ⟨4, o, 0, n + 1⟩
          have hb' : onB letC b = false := by rw [beq_iff_eq] at hq; subst hq; decide
          rw [fs_q (isBlob_dig b _ hb') hq, quo_local 32 (by decide) r _ _ _ h2]
      | false =>
        cases hd : onB digC b with
        | true =>
          rw [fs_d hb hq hd] at h ⊢
          have hp := dig_pos (s := b :: l) rfl hd
          have hP : decN 0 ((b :: l).take (runN digC (b :: l))) ≤ 9223372036854775807 := ex_of_l _ h
          have e : numS' (b :: l) = ⟨1, [], decN 0 ((b :: l).take (runN digC (b :: l))), runN digC (b :: l)⟩ := by unfold numS'; rw [if_pos hP]
          rw [e]
          show foundS ((b :: l).take (runN digC (b :: l)) ++ 32 :: r) = _
          have e2 := run_local digC 32 (by decide) r (b :: l)
          have e3 := run_take digC 32 r (b :: l)
          generalize runN digC (b :: l) = n at *
          match n, hp with
          | n + 1, _ =>
            rw [List.take_succ_cons, List.cons_append] at *
            rw [fs_d (isBlob_dig b _ (dig_let hd)) hq hd]
            unfold numS'
            rw [e2, e3, if_pos hP]
        | false =>
          cases hl : onB letC b with
          | true =>
            rw [fs_l hb hq hd hl] at h ⊢
            have hn : onB namC b = true := by
              have h0 : letC (b.toNat : Int) = true := hl
              show (letC (b.toNat : Int) || digC (b.toNat : Int)) = true
              rw [h0, Bool.true_or]
            have hp := dig_pos (s := b :: l) rfl hn
            have e2 := run_local namC 32 (by decide) r (b :: l)
            have e3 := run_take namC 32 r (b :: l)
            have hB : isBlob ((b :: l).take (runN namC (b :: l)) ++ 32 :: r) = false := by
              cases l with
              | nil => rw [run_c, if_pos hn]; show isBlob (b :: 32 :: r) = false; rw [isBlob_c, show ((32 : UInt8) == 39) = false from by decide, Bool.and_false]
              | cons c l =>
                rw [run_c, if_pos hn, run_c]
                by_cases hc : onB namC c = true
                · rw [if_pos hc]; show isBlob (b :: c :: _) = false; rw [isBlob_c] at hb ⊢; exact hb
                · rw [if_neg hc]; show isBlob (b :: 32 :: r) = false; rw [isBlob_c, show ((32 : UInt8) == 39) = false from by decide, Bool.and_false]
            show foundS ((b :: l).take (runN namC (b :: l)) ++ 32 :: r) = _
            generalize hm : runN namC (b :: l) = n at *
            match n, hp with
            | n + 1, _ =>
              rw [List.take_succ_cons, List.cons_append] at *
              rw [fs_l hB hq hd hl]
              unfold nameS
              rw [e2, e3, hm, List.take_succ_cons]
          | false =>
            rw [fs_s hb hq hd hl] at h ⊢
            obtain ⟨x, hx, e, hpre⟩ := first_mem _ _ h
            rw [e]
            have e4 : (b :: l).take x.length = x := List.prefix_iff_eq_take.1 (List.isPrefixOf_iff_prefix.1 hpre) |>.symm
            show foundS ((b :: l).take x.length ++ 32 :: r) = _
            have e5 := sign_at r x hx
            rw [e4]
            cases x with
            | nil => rw [e] at h; exact absurd rfl h
            | cons c x =>
              have : c = b := by
                rw [List.length_cons, List.take_succ_cons] at e4
                exact (List.cons.inj e4).1.symm
              subst this
              rw [List.cons_append] at e5 ⊢
              rw [fs_s (isBlob_dig _ _ hl) hq hd hl]
              exact e5
/-- nothing is passed over ahead of it -/
theorem skip_local (u : List UInt8) (n : Nat) (hn : n ≠ 0) (hu : u ≠ []) (h : skipN false u = 0) (r : List UInt8) : skipN false (u.take n ++ 32 :: r) = 0 := by
  cases u with
  | nil => exact absurd rfl hu
  | cons b l =>
    cases n with
    | zero => exact absurd rfl hn
    | succ n =>
      rw [List.take_succ_cons, List.cons_append, skip_f]
      rw [skip_f] at h
      cases hw : onB wsC b with
      | true => rw [hw, if_pos rfl] at h; omega
      | false =>
        rw [hw, if_neg (by decide)] at h
        rw [if_neg (by decide)]
        rw [if_neg]
        intro h2
        rw [Bool.and_eq_true] at h2
        cases l with
        | nil =>
          rw [List.take_nil, List.nil_append] at h2
          exact absurd h2.2 (by simp)
        | cons c l =>
          cases n with
          | zero => rw [List.take_zero, List.nil_append] at h2; exact absurd h2.2 (by simp)
          | succ n =>
            rw [List.take_succ_cons] at h2
            have h3 : (b == 45 && (c :: l).head? == some 45) = true := by rw [Bool.and_eq_true]; exact h2
            rw [if_pos h3] at h
            rw [Bool.and_eq_true, beq_iff_eq] at h3
            simp only [skipN] at h
            omega
theorem skip_idem : ∀ t : List UInt8, skipN false (t.drop (skipN false t)) = 0 := by
  have h : ∀ (q : Bool) (t : List UInt8), skipN false (t.drop (skipN q t)) = 0 := by
    intro q t
    induction t generalizing q with
    | nil => cases q <;> rfl
    | cons b l ih =>
      cases q with
      | true =>
        rw [show skipN true (b :: l) = skipN (b != 10) l + 1 from rfl, List.drop_succ_cons]
        exact ih _
      | false =>
        rw [skip_f]
        split
        · rw [List.drop_succ_cons]; exact ih _
        · rename_i h1
          split
          · rw [List.drop_succ_cons]; exact ih _
          · rename_i h2
            rw [List.drop_zero, skip_f, if_neg h1, if_neg h2]
  exact h false
/-- what is put between -/
def sepS : List UInt8 := [32, 45, 45, 32, 120, 32, 39, 10, 9]
theorem skip_sep (u : List UInt8) : skipN false (sepS ++ u) = skipN false u + 9 := by rfl
/-- a piece of text that says a token, whatever stands behind a blank -/
def Good (p : List UInt8) (w : Wd) : Prop := p ≠ [] ∧ ∀ r, skipN false (p ++ 32 :: r) = 0 ∧ foundS (p ++ 32 :: r) = ⟨w.k, w.s, w.n, p.length⟩
theorem tok_good {p : List UInt8} {w : Wd} (g : Good p w) (r : List UInt8) (a : Nat) : tokS (p ++ 32 :: r) a = ⟨⟨w.k, w.s, w.n, (a : Nat), (a + p.length : Nat)⟩, 0, 0⟩ := by
  obtain ⟨h1, h2⟩ := g
  obtain ⟨h3, h4⟩ := h2 r
  have : p.length ≠ 0 := fun h => h1 (List.eq_nil_of_length_eq_zero h)
  unfold tokS
  rw [h3, if_neg (by simp), List.drop_zero, h4, if_neg this, Nat.add_zero]
theorem tok_good' {p : List UInt8} {w : Wd} (g : Good p w) (r : List UInt8) (a : Nat) : tokS (sepS ++ (p ++ 32 :: r)) a = ⟨⟨w.k, w.s, w.n, (a + 9 : Nat), (a + 9 + p.length : Nat)⟩, 0, 0⟩ := by
  obtain ⟨h1, h2⟩ := g
  obtain ⟨h3, h4⟩ := h2 r
  have : p.length ≠ 0 := fun h => h1 (List.eq_nil_of_length_eq_zero h)
  unfold tokS
  rw [skip_sep, h3, if_neg (by simp [sepS]), Nat.zero_add, show (sepS ++ (p ++ 32 :: r)).drop 9 = p ++ 32 :: r from rfl, h4, if_neg this]
/-- all pieces, each with what is put behind it -/
def joinB (L : List (List UInt8 × Wd)) : List UInt8 := L.flatMap fun x => x.1 ++ sepS
theorem joinB_app (L M : List (List UInt8 × Wd)) : joinB (L ++ M) = joinB L ++ joinB M := List.flatMap_append
theorem joinB_one (x : List UInt8 × Wd) : joinB [x] = x.1 ++ sepS := by simp [joinB]
/-- where the piece i's forerunner ends -/
def endB (L : List (List UInt8 × Wd)) (i : Nat) : Nat := (joinB (L.take i)).length - 9
theorem endB_zero (L : List (List UInt8 × Wd)) : endB L 0 = 0 := rfl
theorem joinB_snoc {L : List (List UInt8 × Wd)} {i : Nat} (h : i < L.length) : joinB (L.take (i + 1)) = joinB (L.take i) ++ (L[i].1 ++ sepS) := by
  rw [List.take_succ_eq_append_getElem h, joinB_app, joinB_one]
theorem endB_succ {L : List (List UInt8 × Wd)} {i : Nat} (h : i < L.length) : endB L (i + 1) = (joinB (L.take i)).length + L[i].1.length := by
  unfold endB
  rw [joinB_snoc h, List.length_append, List.length_append]
  show _ + (_ + 9) - 9 = _
  omega
/-- the rest of all behind the piece ahead of i -/
theorem drop_end (L : List (List UInt8 × Wd)) (i : Nat) (h : i ≤ L.length) : (joinB L).drop (endB L i) = (if i = 0 then [] else sepS) ++ joinB (L.drop i) := by
  cases i with
  | zero => simp [endB_zero]
  | succ i =>
    rw [if_neg (by omega), endB_succ h]
    have e : joinB L = (joinB (L.take i) ++ L[i].1) ++ (sepS ++ joinB (L.drop (i + 1))) := by
      have := List.take_append_drop (i + 1) L
      rw [← List.append_assoc, List.append_assoc (joinB _), ← joinB_snoc h, ← joinB_app, this]
    rw [e, List.drop_append_of_le_length (by rw [List.length_append]; omega), List.drop_of_length_le (by rw [List.length_append]; omega), List.nil_append]
theorem drop_cons {L : List (List UInt8 × Wd)} {i : Nat} (h : i < L.length) : joinB (L.drop i) = L[i].1 ++ 32 :: (sepS.tail ++ joinB (L.drop (i + 1))) := by
  rw [List.drop_eq_getElem_cons h]
  show (L[i].1 ++ sepS) ++ joinB _ = _
  rw [List.append_assoc]; rfl
theorem joinB_len (L : List (List UInt8 × Wd)) {i : Nat} (h : i < L.length) : (joinB (L.take i)).length + L[i].1.length ≤ (joinB L).length := by
  have : joinB L = joinB (L.take (i + 1)) ++ joinB (L.drop (i + 1)) := by rw [← joinB_app, List.take_append_drop]
  rw [this, List.length_append, joinB_snoc h, List.length_append, List.length_append]
  omega
theorem endB_le (L : List (List UInt8 × Wd)) (i : Nat) (h : i ≤ L.length) : endB L i ≤ (joinB L).length := by
  cases i with
  | zero => exact Nat.zero_le _
  | succ i => rw [endB_succ h]; exact joinB_len L h
theorem next_tokS {s : List UInt8} {k : Nat} (h : s.length ≤ 65536) (hk : k ≤ s.length) : nextS s k = tokS (s.drop k) k := by
  unfold nextS
  rw [if_neg (by omega), if_neg (by omega), Int.toNat_natCast]
/-- told again -/
theorem again {L : List (List UInt8 × Wd)} (hg : ∀ x ∈ L, Good x.1 x.2) (hl : (joinB L).length ≤ 65536) {i : Nat} (h : i < L.length) : ∃ a : Nat, nextS (joinB L) (endB L i : Nat) = ⟨⟨L[i].2.k, L[i].2.s, L[i].2.n, a, (endB L (i + 1) : Nat)⟩, 0, 0⟩ := by
  have g := hg L[i] (List.getElem_mem h)
  rw [next_tokS hl (endB_le L i (by omega)), drop_end L i (by omega), drop_cons h]
  by_cases h0 : i = 0
  · rw [if_pos h0, List.nil_append, tok_good g]
    refine ⟨endB L i, ?_⟩
    rw [endB_succ h]
    subst h0
    rfl
  · rw [if_neg h0, tok_good' g]
    refine ⟨endB L i + 9, ?_⟩
    have e : endB L (i + 1) = endB L i + 9 + L[i].1.length := by
      rw [endB_succ h]
      have : 9 ≤ (joinB (L.take i)).length := by
        cases i with
        | zero => exact absurd rfl h0
        | succ i => rw [joinB_snoc (by omega), List.length_append, List.length_append]; show 9 ≤ _ + (_ + 9); omega
      unfold endB
      omega
    rw [e]
theorem again_end {L : List (List UInt8 × Wd)} (hl : (joinB L).length ≤ 65536) : ∃ a : Int, nextS (joinB L) (endB L L.length : Nat) = ⟨⟨7, [], 0, a, a⟩, 0, 0⟩ := by
  rw [next_tokS hl (endB_le L _ (Nat.le_refl _)), drop_end L _ (Nat.le_refl _)]
  rw [List.drop_length]
  have : ∀ u : List UInt8, skipN false u = u.length → ∀ k : Nat, ∃ a : Int, tokS u k = ⟨⟨7, [], 0, a, a⟩, 0, 0⟩ := fun u h k => by
    unfold tokS
    rw [if_pos h]
    exact ⟨_, rfl⟩
  refine this _ ?_ _
  by_cases h0 : L.length = 0
  · rw [if_pos h0]; rfl
  · rw [if_neg h0]; rfl
/-- a token told is a piece that says it -/
theorem next_good {s : List UInt8} {a : Nat} (hl : s.length ≤ 2000) (ha : a ≤ s.length) (he : (nextS s a).e = 0) (hk : (nextS s a).w.k ≠ 7) :
    ∃ i j : Nat, (nextS s a).w.a = i ∧ (nextS s a).w.e = j ∧ a ≤ i ∧ i < j ∧ j ≤ s.length ∧ Good ((s.take j).drop i) (nextS s a).w ∧ (nextS s a).a = 0 := by
  rw [next_tokS (by omega) ha] at he hk ⊢
  generalize ht : s.drop a = t at *
  have htl : t.length = s.length - a := by rw [← ht, List.length_drop]
  have h1 := skipN_le false t
  have h2 := found_le (t.drop (skipN false t))
  have h2' := h2
  rw [List.length_drop] at h2
  unfold tokS at he hk ⊢
  split at he
  · rename_i h
    rw [if_pos h] at hk
    exact absurd rfl hk
  · rename_i h
    rw [if_neg h] at hk ⊢
    split at he
    · exact absurd he (by simp)
    · rename_i h3
      rw [if_neg h3]
      have hu : t.drop (skipN false t) ≠ [] := fun e => by
        have := congrArg List.length e
        rw [List.length_drop, List.length_nil] at this
        omega
      have hs0 : skipN false (t.drop (skipN false t)) = 0 := skip_idem t
      have eT : (s.take (a + skipN false t + (foundS (t.drop (skipN false t))).l)).drop (a + skipN false t) = (t.drop (skipN false t)).take (foundS (t.drop (skipN false t))).l := by
        rw [List.drop_take, ← List.drop_drop, ht]
        congr 1
        omega
      refine ⟨a + skipN false t, a + skipN false t + (foundS (t.drop (skipN false t))).l, rfl, rfl, by omega, by omega, by omega, ?_, rfl⟩
      rw [eT]
      generalize t.drop (skipN false t) = u at *
      have el : (u.take (foundS u).l).length = (foundS u).l := by rw [List.length_take]; omega
      refine ⟨fun e => ?_, fun r => ⟨skip_local u _ h3 hu hs0 r, ?_⟩⟩
      · rw [e] at el; exact h3 el.symm
      · rw [found_local u h3 r, el]
theorem quo_dup : ∀ s : List UInt8, quoS ((s.flatMap fun b => if b = 39 then [39, 39] else [b]) ++ [39]) = some (s, ((s.flatMap fun b => if b = 39 then [39, 39] else [b]) ++ [39]).length)
  | [] => rfl
  | b :: l => by
    rw [List.flatMap_cons]
    by_cases h : b = 39
    · rw [if_pos h]
      subst h
      simp only [List.cons_append, List.nil_append, List.append_assoc]
      unfold quoS
      simp only [beq_self_eq_true, quo_dup l]
      simp
    · rw [if_neg h]
      have : (b == 39) = false := by simpa using h
      simp only [List.cons_append, List.nil_append, List.append_assoc]
      unfold quoS
      simp only [this, quo_dup l]
      simp
theorem hexD_all : ∀ n : Fin 16, (hexD n.val == 39) = false ∧ halfS (hexD n.val) = some n.val := by decide +kernel
theorem blo_hex : ∀ s : List UInt8, bloS ((s.flatMap fun b : UInt8 => [hexD (b.toNat / 16), hexD (b.toNat % 16)]) ++ [39]) = some (s, ((s.flatMap fun b : UInt8 => [hexD (b.toNat / 16), hexD (b.toNat % 16)]) ++ [39]).length)
  | [] => rfl
  | b :: l => by
    have hb := b.toNat_lt
    have h1 := hexD_all ⟨b.toNat / 16, by omega⟩
    have h2 := hexD_all ⟨b.toNat % 16, by omega⟩
    simp only at h1 h2
    rw [List.flatMap_cons]
    simp only [List.cons_append, List.nil_append]
    unfold bloS
    simp only [h1.1, h1.2, h2.2, blo_hex l]
    have e : UInt8.ofNat (16 * (b.toNat / 16) + b.toNat % 16) = b := by
      rw [Nat.div_add_mod]
      exact UInt8.ofNat_toNat
    rw [Option.map_some, e]
    simp
theorem next_quote (s : List UInt8) (h : (quoteS s).length ≤ 65536) : nextS (quoteS s) 0 = ⟨⟨4, s, 0, 0, ((quoteS s).length : Nat)⟩, 0, 0⟩ := by
  have e : quoteS s = 39 :: ((s.flatMap fun b => if b = 39 then [39, 39] else [b]) ++ [39]) := rfl
  have := next_tokS (k := 0) h (Nat.zero_le _)
  rw [show ((0 : Nat) : Int) = 0 from rfl, List.drop_zero] at this
  rw [this, e]
  unfold tokS
  rw [show skipN false (39 :: ((s.flatMap fun b : UInt8 => if b = 39 then [39, 39] else [b]) ++ [39])) = 0 from by rw [skip_f, if_neg (by decide), if_neg (by simp)]]
  rw [if_neg (by simp), List.drop_zero]
  rw [fs_q (isBlob_dig _ _ (by decide)) (by decide), quo_dup s]
  simp
theorem next_hex (s : List UInt8) (h : (hexW s).length ≤ 65536) : nextS (hexW s) 0 = ⟨⟨5, s, 0, 0, ((hexW s).length : Nat)⟩, 0, 0⟩ := by
  have e : hexW s = 120 :: 39 :: ((s.flatMap fun b : UInt8 => [hexD (b.toNat / 16), hexD (b.toNat % 16)]) ++ [39]) := rfl
  have := next_tokS (k := 0) h (Nat.zero_le _)
  rw [show ((0 : Nat) : Int) = 0 from rfl, List.drop_zero] at this
  rw [this, e]
  unfold tokS
  rw [show skipN false (120 :: 39 :: ((s.flatMap fun b : UInt8 => [hexD (b.toNat / 16), hexD (b.toNat % 16)]) ++ [39])) = 0 from by rw [skip_f, if_neg (by decide), if_neg (by simp)]]
  rw [if_neg (by simp), List.drop_zero]
  rw [fs_b (by rfl), List.drop_succ_cons, List.drop_zero, blo_hex s]
  simp
  omega
theorem quote_len (s : List UInt8) : (quoteS s).length ≤ 2 * s.length + 2 := by
  have : ∀ s : List UInt8, (s.flatMap fun b => if b = 39 then [39, 39] else [b] : List UInt8).length ≤ 2 * s.length := by
    intro s
    induction s with
    | nil => simp
    | cons b l ih =>
      rw [List.flatMap_cons, List.length_append, List.length_cons]
      split <;> simp only [List.length_cons, List.length_nil] <;> omega
  have := this s
  unfold quoteS
  simp only [List.length_append, List.length_cons, List.length_nil]
  omega
theorem hexW_len (s : List UInt8) : (hexW s).length = 2 * s.length + 3 := by
  have : ∀ s : List UInt8, (s.flatMap fun b : UInt8 => [hexD (b.toNat / 16), hexD (b.toNat % 16)]).length = 2 * s.length := by
    intro s
    induction s with
    | nil => simp
    | cons b l ih => rw [List.flatMap_cons, List.length_append, ih, List.length_cons]; simp only [List.length_cons, List.length_nil]; omega
  have := this s
  unfold hexW
  simp only [List.length_append, List.length_cons, List.length_nil]
  omega
end Go.Proofs.YtejepcnoflahkaaGreatDoor
end

section
namespace Go.Proofs.YtejepcnoflahkaaGreatDoor
open Go Go.Ab
set_option linter.unusedVariables false
set_option linter.unusedSimpArgs false
set_option maxRecDepth 100000
set_option maxHeartbeats 8000000

def hexL (u : List UInt8) : List UInt8 := u.flatMap fun b => [hexD (b.toNat / 16), hexD (b.toNat % 16)]
def hexP (s : List UInt8) (i : Nat) : List UInt8 := 120 :: 39 :: hexL (s.take i)
theorem hexL_len : ∀ u : List UInt8, (hexL u).length = 2 * u.length
  | [] => rfl
  | b :: l => by
    show (hexD (b.toNat / 16) :: hexD (b.toNat % 16) :: hexL l).length = _
    simp only [List.length_cons, hexL_len l]
    omega
theorem hexP_len (s : List UInt8) (i : Nat) (h : i ≤ s.length) : (hexP s i).length = 2 * i + 2 := by
  unfold hexP
  rw [List.length_cons, List.length_cons, hexL_len, List.length_take]
  omega
theorem hexP_succ (s : List UInt8) (i : Nat) (h : i < s.length) : hexP s (i + 1) = (hexP s i ++ [hexD ((s.getD i 0).toNat / 16)]) ++ [hexD ((s.getD i 0).toNat % 16)] := by
  have e : s.take (i + 1) = s.take i ++ [s.getD i 0] := by
    rw [List.take_succ_eq_append_getElem h, List.getD_eq_getElem?_getD, List.getElem?_eq_getElem h]; rfl
  unfold hexP hexL
  rw [e, List.flatMap_append]
  simp
theorem hexP_all (s : List UInt8) : hexP s s.length ++ [39] = hexW s := by
  unfold hexP hexW hexL
  rw [List.take_length]
theorem hi_all : ∀ n : Fin 256, ((n.val : Nat) : Int).fdiv (2 ^ min (Int.toNat 4) IntKind.u8.bits) = ((n.val / 16 : Nat) : Int) := by decide +kernel
theorem lo_all : ∀ n : Fin 256, IntKind.u8.wrap ↑(BitVec.ofInt IntKind.u8.bits ((n.val : Nat) : Int) &&& BitVec.ofInt IntKind.u8.bits 15).toNat = ((n.val % 16 : Nat) : Int) := by decide +kernel
theorem hi_is (b : UInt8) : ((b.toNat : Nat) : Int).fdiv (2 ^ min (Int.toNat 4) IntKind.u8.bits) = ((b.toNat / 16 : Nat) : Int) := hi_all ⟨b.toNat, b.toNat_lt⟩
theorem lo_is (b : UInt8) : IntKind.u8.wrap ↑(BitVec.ofInt IntKind.u8.bits ((b.toNat : Nat) : Int) &&& BitVec.ofInt IntKind.u8.bits 15).toNat = ((b.toNat % 16 : Nat) : Int) := lo_all ⟨b.toNat, b.toNat_lt⟩
theorem hi_rng (b : UInt8) : 0 ≤ ((b.toNat : Nat) : Int).fdiv (2 ^ min (Int.toNat 4) IntKind.u8.bits) ∧ ((b.toNat : Nat) : Int).fdiv (2 ^ min (Int.toNat 4) IntKind.u8.bits) < (16 : Nat) := by
  rw [hi_is]
  have := b.toNat_lt
  omega
theorem lo_rng (b : UInt8) : 0 ≤ IntKind.u8.wrap ↑(BitVec.ofInt IntKind.u8.bits ((b.toNat : Nat) : Int) &&& BitVec.ofInt IntKind.u8.bits 15).toNat ∧ IntKind.u8.wrap ↑(BitVec.ofInt IntKind.u8.bits ((b.toNat : Nat) : Int) &&& BitVec.ofInt IntKind.u8.bits 15).toNat < (16 : Nat) := by
  rw [lo_is]
  exact ⟨by omega, by omega⟩
@[reducible] def d16L : List UInt8 := [48, 49, 50, 51, 52, 53, 54, 55, 56, 57, 97, 98, 99, 100, 101, 102]
@[reducible] def hiE (s : List UInt8) (i : Nat) : UInt8 := d16L.getD (((s.getD ((i : Int)).toNat 0).toNat : Int).fdiv (2 ^ min (Int.toNat 4) IntKind.u8.bits)).toNat 0
@[reducible] def loE (s : List UInt8) (i : Nat) : UInt8 := d16L.getD (IntKind.u8.wrap ↑(BitVec.ofInt IntKind.u8.bits ((s.getD ((i : Int)).toNat 0).toNat : Int) &&& BitVec.ofInt IntKind.u8.bits 15).toNat).toNat 0
theorem d16_is : ∀ n : Fin 16, d16L.getD n.val 0 = hexD n.val := by decide +kernel
theorem hiE_is (s : List UInt8) (i : Nat) : hiE s i = hexD ((s.getD i 0).toNat / 16) := by
  have := (s.getD i 0).toNat_lt
  unfold hiE
  rw [hi_is, Int.toNat_natCast, Int.toNat_natCast]
  exact d16_is ⟨(s.getD i 0).toNat / 16, by omega⟩
theorem loE_is (s : List UInt8) (i : Nat) : loE s i = hexD ((s.getD i 0).toNat % 16) := by
  unfold loE
  rw [lo_is, Int.toNat_natCast, Int.toNat_natCast]
  exact d16_is ⟨(s.getD i 0).toNat % 16, by omega⟩
theorem byte_of (b : UInt8) : UInt8.ofNat (((b.toNat : Nat) : Int)).toNat = b := by rw [Int.toNat_natCast, UInt8.ofNat_toNat]
def hexB' (s : List UInt8) (i : Nat) : List (Nat × Blk) := [(0, .tcells 96 [.ptr 0 0, .hs 2 0 (hexP s i).length 1 none]), (2, .arr 5 1 (hexP s i).length (strF (hexP s i)))]
set_option smartUnfolding false in
theorem pc_hexW (s : List UInt8) (hn : s.length ≤ 65536) : PC Tryz.prog GW 38 [.str s] (.str (hexW s)) := by
  refine pc_fin EK_ok mixed (show Tryz.prog.funcs[38]? = some Tryz.f38 from rfl) ?_
  refine BR.mk (fun h => ?_) (fun h => ?_)
  · exact ⟨rfl, by decide⟩
  refine loop_famM EK_ok mixed (σ := Nat) (fun i => i ≤ s.length) (fun i => s.length - i) 0 (Nat.zero_le _) 2 3 0 [(2, 1)] [0, 3, 7] (fun i => [(8, .int .i64 i)]) [] (fun i => hexB' s i) (fun _ => []) ?_ ?_ ?_ ?_ ?_ ?_
  · rfl
  · rfl
  · rfl
  · rfl
  · refine Wk.mk' rfl rfl trivial ?_ ?_
    · repeat' (refine BR.mk (fun _ => ?_) (fun _ => ?_))
      any_goals first | exact trivial | exact Wv.any _ | (refine Wv.int ?_; with_reducible rfl) | (refine Wv.str ?_; with_reducible rfl) | (refine Wv.bool ?_; with_reducible rfl) | refine Wv.int ?_ | refine Wv.str ?_ | refine Wv.bool ?_ | exact Wv.same rfl
      all_goals rfl
    · refine BR.mk (fun _ => ?_) (fun _ => BR.mk (fun _ => ?_) fun _ => trivial)
      · exact ⟨Nat.le_of_ble_eq_true rfl, .inl ⟨rfl, _, rfl, rfl, .cons (.same rfl) (.cons (.moved rfl rfl rfl rfl) .nil)⟩⟩
      · exact ⟨Nat.le_of_ble_eq_true rfl, .inl ⟨rfl, _, rfl, rfl, rfl, Nat.le_refl _, fun j hj => wv_byte (isB _) rfl⟩⟩
  · rintro i hi
    have hP := hexP_len s i hi
    by_cases hil : i < s.length
    · have k1 : decide ((i : Int) < (s.length : Int)) = true := decide_eq_true (by omega)
      repeat' (refine BR.mk (fun h => ?_) (fun h => ?_) <;> first | with_reducible exact Bool.noConfusion h | with_reducible exact Bool.noConfusion (k1.symm.trans h) | skip)
      · exact ⟨by omega, by omega⟩
      · decide
      · exact hi_rng _
      · exact ⟨rfl, by rw [hP]; omega, isB _, fun j _ => isB _⟩
      · exact ⟨by omega, by omega⟩
      · exact lo_rng _
      · exact ⟨rfl, by rw [hP]; omega, isB _, fun j hj => isB _⟩
      · have ln : (hexP s i).length + 1 + 1 = (hexP s (i + 1)).length := by rw [hP, hexP_len s (i + 1) hil]; omega
        have eo : txtA ((hexP s i).length + 1) (strF (txtA (hexP s i).length (strF (hexP s i)) ++ [UInt8.ofNat (((hiE s i).toNat : Nat) : Int).toNat])) ++ [UInt8.ofNat (((loE s i).toNat : Nat) : Int).toNat] = hexP s (i + 1) := by
          rw [txtA_str, byte_of, byte_of, hiE_is, loE_is, hexP_succ s i hil]
          have := txtA_str (hexP s i ++ [hexD ((s.getD i 0).toNat / 16)])
          rw [List.length_append, List.length_cons, List.length_nil] at this
          rw [this]
        refine Again.famM (i + 1) [(2, 4)] hil (by show s.length - (i + 1) < s.length - i; omega) rfl rfl rfl rfl trivial ?_ ?_
        · repeat' (refine BR.mk (fun _ => ?_) (fun _ => ?_))
          any_goals first | exact trivial | exact Wv.any _ | (refine Wv.int ?_; with_reducible rfl) | (refine Wv.str ?_; with_reducible rfl) | (refine Wv.bool ?_; with_reducible rfl) | refine Wv.int ?_ | refine Wv.str ?_ | refine Wv.bool ?_ | exact Wv.same rfl
          rw [wrap_id (by unfold i64; omega)]; rfl
        · refine BR.mk (fun _ => ?_) (fun _ => BR.mk (fun _ => ?_) fun _ => trivial)
          · exact ⟨Nat.le_of_ble_eq_true rfl, .inl ⟨rfl, _, rfl, rfl, .cons (.same rfl) (.cons (.moved rfl rfl rfl ln) .nil)⟩⟩
          · exact ⟨Nat.le_of_ble_eq_true rfl, .inl ⟨rfl, _, rfl, rfl, rfl, Nat.le_of_eq ln.symm, fun j hj => wv_byte' (isB _) (congrArg (fun t => strF t j) eo)⟩⟩
    · have k1 : decide ((i : Int) < (s.length : Int)) = false := decide_eq_false (by omega)
      obtain rfl : i = s.length := by omega
      repeat' (refine BR.mk (fun h => ?_) (fun h => ?_) <;> first | with_reducible exact Bool.noConfusion h | with_reducible exact Bool.noConfusion (k1.symm.trans h) | skip)
      · exact ⟨rfl, by rw [hP]; omega, by decide, fun j _ => isB _⟩
      · exact ⟨rfl, rfl, rfl, rfl, Nat.le_refl _, by rw [hP]; omega, fun j hj => isB _⟩
      · refine Fini.mk (congrArg AV.str ?_)
        refine (txtA_eq (n := (hexP s s.length).length + 1) (l := hexW s) (by rw [hP, hexW_len]) (fun j _ => congrArg (fun t => strF t j) ?_)).trans rfl
        rw [txtA_str]
        exact hexP_all s
def h_hexW : List AV → CR
  | [.str s] => .need (s.length ≤ 65536) (.str (hexW s))
  | _ => .no
theorem h_hexW_ok (xs : List AV) : CRok Tryz.prog GW 38 xs (h_hexW xs) := by
  unfold h_hexW
  split
  · rename_i s
    exact fun hn => pc_hexW s hn
  · trivial
noncomputable def EHX : Env := EK.add 38 h_hexW
theorem EHX_ok : EnvOk Tryz.prog EHX := Env.add_ok EK_ok (by kernel_rfl) h_hexW_ok

end Go.Proofs.YtejepcnoflahkaaGreatDoor
end

section
namespace Go.Proofs.YtejepcnoflahkaaGreatDoor
open Go Go.Ab
set_option linter.unusedVariables false
set_option linter.unusedSimpArgs false
set_option maxRecDepth 100000
set_option maxHeartbeats 8000000

@[reducible] def dupB (s : List UInt8) : List UInt8 := s.flatMap fun b => if b = 39 then [39, 39] else [b]
theorem rep_ne (k : Nat) {b : UInt8} (l : List UInt8) (h : b ≠ 39) : Lib.replaceK [39] [39, 39] k (b :: l) = b :: Lib.replaceK [39] [39, 39] k l := by
  have hp : ([39] : List UInt8).isPrefixOf (b :: l) = false := by simp [List.isPrefixOf, Ne.symm h]
  have hix : Lib.index (b :: l) [39] = if Lib.index l [39] == -1 then -1 else Lib.index l [39] + 1 := by rw [Lib.index, hp]; simp
  cases k with
  | zero => rfl
  | succ k =>
    rw [Lib.replaceK, Lib.replaceK, hix]
    by_cases hm : Lib.index l [39] = -1
    · rw [if_pos (beq_iff_eq.2 hm), if_pos (by simp), if_pos (beq_iff_eq.2 hm)]
    · have hge := Lib.index_ge l [39]
      obtain ⟨j, hj⟩ : ∃ j : Nat, Lib.index l [39] = j := ⟨(Lib.index l [39]).toNat, by omega⟩
      have h1 : ¬ (((j : Nat) : Int) == -1) = true := fun e => by have := beq_iff_eq.1 e; omega
      have h2 : ¬ (((j : Nat) : Int) + 1 == -1) = true := fun e => by have := beq_iff_eq.1 e; omega
      rw [hj, if_neg h1, if_neg h2, if_neg h1, show (((j : Nat) : Int) + 1).toNat = j + 1 from by omega, Int.toNat_natCast]
      simp only [List.take_succ_cons, List.cons_append, List.length_cons, List.length_nil, List.drop_succ_cons]
theorem rep_eq (k : Nat) (l : List UInt8) : Lib.replaceK [39] [39, 39] (k + 1) (39 :: l) = 39 :: 39 :: Lib.replaceK [39] [39, 39] k l := by
  have hix : Lib.index (39 :: l) [39] = ((0 : Nat) : Int) := by rw [Lib.index]; simp [List.isPrefixOf]
  rw [Lib.replaceK_hit _ _ _ _ _ hix]
  simp
theorem rep_all : ∀ s : List UInt8, Lib.replaceK [39] [39, 39] (s.count 39) s = dupB s
  | [] => rfl
  | b :: l => by
    by_cases h : b = 39
    · subst h
      rw [List.count_cons_self, rep_eq, rep_all l]
      simp [dupB]
    · rw [List.count_cons_of_ne (by simpa using h), rep_ne _ _ h, rep_all l]
      simp [dupB, h]
theorem rep_dup (s : List UInt8) : Lib.replaceAll s [39] [39, 39] = dupB s := by
  unfold Lib.replaceAll Lib.replace Lib.replaceNum
  rw [if_neg (by decide), if_pos (.inl (by decide)), Lib.count_one]
  exact rep_all s
theorem dupB_len (s : List UInt8) : (dupB s).length ≤ 2 * s.length := by
  have := quote_len s
  unfold quoteS at this
  simp only [List.length_append, List.length_cons, List.length_nil] at this
  show (List.flatMap _ s).length ≤ _
  omega
theorem pc_quoteS (s : List UInt8) (hn : s.length ≤ 65536) : PC Tryz.prog GW 36 [.str s] (.str (quoteS s)) := by
  have h1 := Lib.countB_le ⟨#[39]⟩ (by decide) s.length ⟨s.toArray⟩ (by simp [ByteArray.size])
  have h2 : (ByteArray.mk s.toArray).size = s.length := by simp [ByteArray.size]
  have h3 := dupB_len s
  have := pc_quote s ⟨⟨by omega, by decide, by omega⟩, by rw [rep_dup]; omega⟩
  rw [rep_dup] at this
  exact this
def h_quoteS : List AV → CR
  | [.str s] => .need (s.length ≤ 65536) (.str (quoteS s))
  | _ => .no
theorem h_quoteS_ok (xs : List AV) : CRok Tryz.prog GW 36 xs (h_quoteS xs) := by
  unfold h_quoteS
  split
  · rename_i s
    exact fun hn => pc_quoteS s hn
  · trivial
noncomputable def EBK : Env := EHX.add 36 h_quoteS
theorem EBK_ok : EnvOk Tryz.prog EBK := Env.add_ok EHX_ok (by kernel_rfl) h_quoteS_ok

end Go.Proofs.YtejepcnoflahkaaGreatDoor
end
