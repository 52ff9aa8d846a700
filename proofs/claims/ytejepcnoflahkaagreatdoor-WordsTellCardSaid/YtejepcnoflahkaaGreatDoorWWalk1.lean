/- words: the small functions, run, pass. -/
import Derived.Test.YtejepcnoflahkaaGreatDoorWSpec
import Derived.Test.YtejepcnoflahkaaGreatDoorVRunEnv
import Derived.Test.YtejepcnoflahkaaGreatDoorVWalk5
namespace Go.Proofs.YtejepcnoflahkaaGreatDoor
open Go Go.Ab
set_option linter.unusedVariables false
set_option linter.unusedSimpArgs false
set_option maxRecDepth 100000
set_option maxHeartbeats 4000000

def EW0 : Env := ER
theorem EW0_ok : EnvOk Tryz.prog EW0 := ER_ok
theorem pc_digC (c : Int) : PC Tryz.prog GV 143 [.int .u8 c] (.bool (digC c)) := by
  refine pc_fin EW0_ok mixed (show Tryz.prog.funcs[143]? = some Tryz.f143 from rfl) ?_
  repeat' (refine BR.mk (fun h => ?_) (fun h => ?_) <;> try contradiction)
  all_goals refine Fini.mk ?_
  all_goals simp_all [digC]
  all_goals (intros; omega)
def h_digC : List AV → CR
  | [.int .u8 c] => .yes (.bool (digC c))
  | _ => .no
theorem h_digC_ok (xs : List AV) : CRok Tryz.prog GV 143 xs (h_digC xs) := by
  unfold h_digC
  split
  · rename_i c
    exact pc_digC c
  · trivial
def EW0a : Env := EW0.add 143 h_digC
theorem EW0a_ok : EnvOk Tryz.prog EW0a := Env.add_ok EW0_ok (by kernel_rfl) h_digC_ok

theorem pc_letC (c : Int) : PC Tryz.prog GV 145 [.int .u8 c] (.bool (letC c)) := by
  refine pc_fin EW0a_ok mixed (show Tryz.prog.funcs[145]? = some Tryz.f145 from rfl) ?_
  repeat' (refine BR.mk (fun h => ?_) (fun h => ?_) <;> try contradiction)
  all_goals refine Fini.mk ?_
  all_goals simp_all [letC]
  all_goals (intros; omega)
def h_letC : List AV → CR
  | [.int .u8 c] => .yes (.bool (letC c))
  | _ => .no
theorem h_letC_ok (xs : List AV) : CRok Tryz.prog GV 145 xs (h_letC xs) := by
  unfold h_letC
  split
  · rename_i c
    exact pc_letC c
  · trivial
def EW0b : Env := EW0a.add 145 h_letC
theorem EW0b_ok : EnvOk Tryz.prog EW0b := Env.add_ok EW0a_ok (by kernel_rfl) h_letC_ok

theorem pc_wsC (c : Int) : PC Tryz.prog GV 139 [.int .u8 c] (.bool (wsC c)) := by
  refine pc_fin EW0b_ok mixed (show Tryz.prog.funcs[139]? = some Tryz.f139 from rfl) ?_
  repeat' (refine BR.mk (fun h => ?_) (fun h => ?_) <;> try contradiction)
  all_goals refine Fini.mk ?_
  all_goals simp_all [wsC]
  all_goals (intros; omega)
def h_wsC : List AV → CR
  | [.int .u8 c] => .yes (.bool (wsC c))
  | _ => .no
theorem h_wsC_ok (xs : List AV) : CRok Tryz.prog GV 139 xs (h_wsC xs) := by
  unfold h_wsC
  split
  · rename_i c
    exact pc_wsC c
  · trivial
def EW0c : Env := EW0b.add 139 h_wsC
theorem EW0c_ok : EnvOk Tryz.prog EW0c := Env.add_ok EW0b_ok (by kernel_rfl) h_wsC_ok

theorem pc_nlC (c : Int) : PC Tryz.prog GV 140 [.int .u8 c] (.bool (nlC c)) := by
  refine pc_fin EW0c_ok mixed (show Tryz.prog.funcs[140]? = some Tryz.f140 from rfl) ?_
  repeat' (refine BR.mk (fun h => ?_) (fun h => ?_) <;> try contradiction)
  all_goals refine Fini.mk ?_
  all_goals simp_all [nlC]
  all_goals (intros; omega)
def h_nlC : List AV → CR
  | [.int .u8 c] => .yes (.bool (nlC c))
  | _ => .no
theorem h_nlC_ok (xs : List AV) : CRok Tryz.prog GV 140 xs (h_nlC xs) := by
  unfold h_nlC
  split
  · rename_i c
    exact pc_nlC c
  · trivial
def EW0d : Env := EW0c.add 140 h_nlC
theorem EW0d_ok : EnvOk Tryz.prog EW0d := Env.add_ok EW0c_ok (by kernel_rfl) h_nlC_ok

theorem pc_namC (c : Int) : PC Tryz.prog GV 146 [.int .u8 c] (.bool (namC c)) := by
  refine pc_fin EW0d_ok mixed (show Tryz.prog.funcs[146]? = some Tryz.f146 from rfl) ?_
  repeat' (refine BR.mk (fun h => ?_) (fun h => ?_) <;> try contradiction)
  all_goals refine Fini.mk ?_
  all_goals simp_all [namC]
  all_goals (intros; omega)
def h_namC : List AV → CR
  | [.int .u8 c] => .yes (.bool (namC c))
  | _ => .no
theorem h_namC_ok (xs : List AV) : CRok Tryz.prog GV 146 xs (h_namC xs) := by
  unfold h_namC
  split
  · rename_i c
    exact pc_namC c
  · trivial
def EW0e : Env := EW0d.add 146 h_namC
theorem EW0e_ok : EnvOk Tryz.prog EW0e := Env.add_ok EW0d_ok (by kernel_rfl) h_namC_ok

theorem runN_step (p : Int → Bool) (s : List UInt8) (i : Nat) (h : i < s.length) : runN p (s.drop i) = if p ((s.getD i 0).toNat : Int) then runN p (s.drop (i + 1)) + 1 else 0 := by
  rw [drop_at h]
  simp only [runN, onB]
  cases p ((s.getD i 0).toNat : Int) <;> rfl
theorem runN_le (p : Int → Bool) : ∀ s : List UInt8, runN p s ≤ s.length
  | [] => Nat.le_refl _
  | b :: l => by
    have := runN_le p l
    simp only [runN, List.length_cons]
    split <;> omega
theorem pc_run_dig (s : List UInt8) (hn : s.length ≤ 9223372036854775807) : PC Tryz.prog GV 138 [.str s, .clo 143 [] []] (.int .i64 (runN digC s)) := by
  refine pc_fin EW0e_ok mixed (show Tryz.prog.funcs[138]? = some Tryz.f138 from rfl) ?_
  refine loop_fam EW0e_ok mixed (σ := Nat) (fun i => i ≤ s.length ∧ runN digC s = i + runN digC (s.drop i)) (fun i => s.length - i) 0 ⟨Nat.zero_le _, by simp⟩ 0 0 [0, 1, 4] (fun i => [(5, .int .i64 i)]) [] (fun _ => []) (fun _ => []) ?_ ?_ ?_ ?_
  · rfl
  · rfl
  · refine Wk.mk' rfl rfl trivial ?_ trivial
    repeat' (refine BR.mk (fun _ => ?_) (fun _ => ?_))
    any_goals first | exact trivial | exact Wv.any _ | (refine Wv.int ?_; with_reducible rfl) | (refine Wv.str ?_; with_reducible rfl) | (refine Wv.bool ?_; with_reducible rfl) | refine Wv.int ?_ | refine Wv.str ?_ | refine Wv.bool ?_ | exact Wv.same rfl
    all_goals rfl
  · rintro i ⟨hi, hf⟩
    repeat' (refine BR.mk (fun h => ?_) (fun h => ?_) <;> try contradiction)
    all_goals simp only [decide_eq_true_eq, decide_eq_false_iff_not] at *
    all_goals try (exact ⟨by omega, by omega⟩)
    all_goals try (rw [runN_step _ _ _ (by omega)] at hf)
    all_goals first
      | (refine Fini.mk (congrArg (AV.int .i64) ?_); simp_all; done)
      | (refine Fini.mk (congrArg (AV.int .i64) ?_); rw [hf, List.drop_eq_nil_of_le (by omega)]; rfl)
      | skip
    all_goals
      refine Again.fam (i + 1) ⟨by omega, ?_⟩ (by omega) rfl rfl rfl rfl trivial ?_ trivial
    · have hx : digC ((s.getD i 0).toNat : Int) = true := by assumption
      rw [hf, if_pos hx]; omega
    · skip
      repeat' (refine BR.mk (fun _ => ?_) (fun _ => ?_))
      any_goals first | exact trivial | exact Wv.any _ | (refine Wv.int ?_; with_reducible rfl) | (refine Wv.str ?_; with_reducible rfl) | (refine Wv.bool ?_; with_reducible rfl) | refine Wv.int ?_ | refine Wv.str ?_ | refine Wv.bool ?_ | exact Wv.same rfl
      rw [wrap_id (by unfold i64; omega)]
      rfl

theorem pc_run_ws (s : List UInt8) (hn : s.length ≤ 9223372036854775807) : PC Tryz.prog GV 138 [.str s, .clo 139 [] []] (.int .i64 (runN wsC s)) := by
  refine pc_fin EW0e_ok mixed (show Tryz.prog.funcs[138]? = some Tryz.f138 from rfl) ?_
  refine loop_fam EW0e_ok mixed (σ := Nat) (fun i => i ≤ s.length ∧ runN wsC s = i + runN wsC (s.drop i)) (fun i => s.length - i) 0 ⟨Nat.zero_le _, by simp⟩ 0 0 [0, 1, 4] (fun i => [(5, .int .i64 i)]) [] (fun _ => []) (fun _ => []) ?_ ?_ ?_ ?_
  · rfl
  · rfl
  · refine Wk.mk' rfl rfl trivial ?_ trivial
    repeat' (refine BR.mk (fun _ => ?_) (fun _ => ?_))
    any_goals first | exact trivial | exact Wv.any _ | (refine Wv.int ?_; with_reducible rfl) | (refine Wv.str ?_; with_reducible rfl) | (refine Wv.bool ?_; with_reducible rfl) | refine Wv.int ?_ | refine Wv.str ?_ | refine Wv.bool ?_ | exact Wv.same rfl
    all_goals rfl
  · rintro i ⟨hi, hf⟩
    repeat' (refine BR.mk (fun h => ?_) (fun h => ?_) <;> try contradiction)
    all_goals simp only [decide_eq_true_eq, decide_eq_false_iff_not] at *
    all_goals try (exact ⟨by omega, by omega⟩)
    all_goals try (rw [runN_step _ _ _ (by omega)] at hf)
    all_goals first
      | (refine Fini.mk (congrArg (AV.int .i64) ?_); simp_all; done)
      | (refine Fini.mk (congrArg (AV.int .i64) ?_); rw [hf, List.drop_eq_nil_of_le (by omega)]; rfl)
      | skip
    all_goals
      refine Again.fam (i + 1) ⟨by omega, ?_⟩ (by omega) rfl rfl rfl rfl trivial ?_ trivial
    · have hx : wsC ((s.getD i 0).toNat : Int) = true := by assumption
      rw [hf, if_pos hx]; omega
    · skip
      repeat' (refine BR.mk (fun _ => ?_) (fun _ => ?_))
      any_goals first | exact trivial | exact Wv.any _ | (refine Wv.int ?_; with_reducible rfl) | (refine Wv.str ?_; with_reducible rfl) | (refine Wv.bool ?_; with_reducible rfl) | refine Wv.int ?_ | refine Wv.str ?_ | refine Wv.bool ?_ | exact Wv.same rfl
      rw [wrap_id (by unfold i64; omega)]
      rfl

theorem pc_run_nl (s : List UInt8) (hn : s.length ≤ 9223372036854775807) : PC Tryz.prog GV 138 [.str s, .clo 140 [] []] (.int .i64 (runN nlC s)) := by
  refine pc_fin EW0e_ok mixed (show Tryz.prog.funcs[138]? = some Tryz.f138 from rfl) ?_
  refine loop_fam EW0e_ok mixed (σ := Nat) (fun i => i ≤ s.length ∧ runN nlC s = i + runN nlC (s.drop i)) (fun i => s.length - i) 0 ⟨Nat.zero_le _, by simp⟩ 0 0 [0, 1, 4] (fun i => [(5, .int .i64 i)]) [] (fun _ => []) (fun _ => []) ?_ ?_ ?_ ?_
  · rfl
  · rfl
  · refine Wk.mk' rfl rfl trivial ?_ trivial
    repeat' (refine BR.mk (fun _ => ?_) (fun _ => ?_))
    any_goals first | exact trivial | exact Wv.any _ | (refine Wv.int ?_; with_reducible rfl) | (refine Wv.str ?_; with_reducible rfl) | (refine Wv.bool ?_; with_reducible rfl) | refine Wv.int ?_ | refine Wv.str ?_ | refine Wv.bool ?_ | exact Wv.same rfl
    all_goals rfl
  · rintro i ⟨hi, hf⟩
    repeat' (refine BR.mk (fun h => ?_) (fun h => ?_) <;> try contradiction)
    all_goals simp only [decide_eq_true_eq, decide_eq_false_iff_not] at *
    all_goals try (exact ⟨by omega, by omega⟩)
    all_goals try (rw [runN_step _ _ _ (by omega)] at hf)
    all_goals first
      | (refine Fini.mk (congrArg (AV.int .i64) ?_); simp_all; done)
      | (refine Fini.mk (congrArg (AV.int .i64) ?_); rw [hf, List.drop_eq_nil_of_le (by omega)]; rfl)
      | skip
    all_goals
      refine Again.fam (i + 1) ⟨by omega, ?_⟩ (by omega) rfl rfl rfl rfl trivial ?_ trivial
    · have hx : nlC ((s.getD i 0).toNat : Int) = true := by assumption
      rw [hf, if_pos hx]; omega
    · skip
      repeat' (refine BR.mk (fun _ => ?_) (fun _ => ?_))
      any_goals first | exact trivial | exact Wv.any _ | (refine Wv.int ?_; with_reducible rfl) | (refine Wv.str ?_; with_reducible rfl) | (refine Wv.bool ?_; with_reducible rfl) | refine Wv.int ?_ | refine Wv.str ?_ | refine Wv.bool ?_ | exact Wv.same rfl
      rw [wrap_id (by unfold i64; omega)]
      rfl

theorem pc_run_nam (s : List UInt8) (hn : s.length ≤ 9223372036854775807) : PC Tryz.prog GV 138 [.str s, .clo 146 [] []] (.int .i64 (runN namC s)) := by
  refine pc_fin EW0e_ok mixed (show Tryz.prog.funcs[138]? = some Tryz.f138 from rfl) ?_
  refine loop_fam EW0e_ok mixed (σ := Nat) (fun i => i ≤ s.length ∧ runN namC s = i + runN namC (s.drop i)) (fun i => s.length - i) 0 ⟨Nat.zero_le _, by simp⟩ 0 0 [0, 1, 4] (fun i => [(5, .int .i64 i)]) [] (fun _ => []) (fun _ => []) ?_ ?_ ?_ ?_
  · rfl
  · rfl
  · refine Wk.mk' rfl rfl trivial ?_ trivial
    repeat' (refine BR.mk (fun _ => ?_) (fun _ => ?_))
    any_goals first | exact trivial | exact Wv.any _ | (refine Wv.int ?_; with_reducible rfl) | (refine Wv.str ?_; with_reducible rfl) | (refine Wv.bool ?_; with_reducible rfl) | refine Wv.int ?_ | refine Wv.str ?_ | refine Wv.bool ?_ | exact Wv.same rfl
    all_goals rfl
  · rintro i ⟨hi, hf⟩
    repeat' (refine BR.mk (fun h => ?_) (fun h => ?_) <;> try contradiction)
    all_goals simp only [decide_eq_true_eq, decide_eq_false_iff_not] at *
    all_goals try (exact ⟨by omega, by omega⟩)
    all_goals try (rw [runN_step _ _ _ (by omega)] at hf)
    all_goals first
      | (refine Fini.mk (congrArg (AV.int .i64) ?_); simp_all; done)
      | (refine Fini.mk (congrArg (AV.int .i64) ?_); rw [hf, List.drop_eq_nil_of_le (by omega)]; rfl)
      | skip
    all_goals
      refine Again.fam (i + 1) ⟨by omega, ?_⟩ (by omega) rfl rfl rfl rfl trivial ?_ trivial
    · have hx : namC ((s.getD i 0).toNat : Int) = true := by assumption
      rw [hf, if_pos hx]; omega
    · skip
      repeat' (refine BR.mk (fun _ => ?_) (fun _ => ?_))
      any_goals first | exact trivial | exact Wv.any _ | (refine Wv.int ?_; with_reducible rfl) | (refine Wv.str ?_; with_reducible rfl) | (refine Wv.bool ?_; with_reducible rfl) | refine Wv.int ?_ | refine Wv.str ?_ | refine Wv.bool ?_ | exact Wv.same rfl
      rw [wrap_id (by unfold i64; omega)]
      rfl

/-- which bytes a kind takes -/
def kindP (g : Nat) (c : Int) : Bool :=
  match Nat.beq g 139 with
  | true => wsC c
  | false => match Nat.beq g 140 with
    | true => nlC c
    | false => match Nat.beq g 143 with
      | true => digC c
      | false => namC c
def kindOk (g : Nat) : Bool :=
  match Nat.beq g 139 with
  | true => true
  | false => match Nat.beq g 140 with
    | true => true
    | false => match Nat.beq g 143 with
      | true => true
      | false => Nat.beq g 146
theorem kind_ws : kindP 139 = wsC := rfl
theorem kind_nl : kindP 140 = nlC := rfl
theorem kind_dig : kindP 143 = digC := rfl
theorem kind_nam : kindP 146 = namC := rfl
theorem pc_run (s : List UInt8) (g : Nat) (hn : kindOk g = true ∧ s.length ≤ 9223372036854775807) : PC Tryz.prog GV 138 [.str s, .clo g [] []] (.int .i64 (runN (kindP g) s)) := by
  obtain ⟨hg, hn⟩ := hn
  unfold kindOk at hg
  split at hg
  · rename_i e; have := Nat.eq_of_beq_eq_true e; subst this; exact pc_run_ws s hn
  · split at hg
    · rename_i e; have := Nat.eq_of_beq_eq_true e; subst this; exact pc_run_nl s hn
    · split at hg
      · rename_i e; have := Nat.eq_of_beq_eq_true e; subst this; exact pc_run_dig s hn
      · have := Nat.eq_of_beq_eq_true hg; subst this; exact pc_run_nam s hn
def h_run : List AV → CR
  | [.str s, .clo g [] []] => .need (kindOk g = true ∧ s.length ≤ 9223372036854775807) (.int .i64 (runN (kindP g) s))
  | _ => .no
theorem h_run_ok (xs : List AV) : CRok Tryz.prog GV 138 xs (h_run xs) := by
  unfold h_run
  split
  · rename_i s g
    exact fun hn => pc_run s g hn
  · trivial
def EW1 : Env := EW0e.add 138 h_run
theorem EW1_ok : EnvOk Tryz.prog EW1 := Env.add_ok EW0e_ok (by kernel_rfl) h_run_ok

/-! ### pass -/
theorem skip_ws : ∀ u : List UInt8, skipN false u = runN wsC u + skipN false (u.drop (runN wsC u))
  | [] => rfl
  | b :: l => by
    have ih := skip_ws l
    cases h : onB wsC b with
    | true =>
      simp only [skipN, runN, h, List.drop_succ_cons]
      omega
    | false => simp only [runN, h, List.drop_zero, Nat.zero_add]
theorem skip_rem : ∀ u : List UInt8, skipN true u = runN nlC u + skipN false (u.drop (runN nlC u))
  | [] => rfl
  | b :: l => by
    have ih := skip_rem l
    by_cases h : b = 10
    · subst h
      have e1 : onB nlC 10 = false := rfl
      have e2 : onB wsC 10 = true := rfl
      have e3 : ((10 : UInt8) != 10) = false := rfl
      simp only [skipN, runN, e1, e2, e3, List.drop_zero]
      omega
    · have e1 : onB nlC b = true := by
        simp only [onB, nlC, bne_iff_ne, ne_eq]
        intro e
        exact h (UInt8.toNat_inj.1 (by have : b.toNat = 10 := by omega
                                       simpa using this))
      have e3 : (b != 10) = true := by simpa using h
      simp only [skipN, runN, e1, e3, List.drop_succ_cons]
      omega
theorem skip_dash {u : List UInt8} (h : Lib.hasPrefix u [45, 45] = true) : skipN false u = runN nlC u + skipN false (u.drop (runN nlC u)) := by
  unfold Lib.hasPrefix at h
  obtain ⟨l, rfl⟩ := List.isPrefixOf_iff_prefix.1 h
  rw [← skip_rem]
  rfl
theorem skip_none {u : List UInt8} (h : Lib.hasPrefix u [45, 45] = false) (hw : runN wsC u = 0) : skipN false u = 0 := by
  cases u with
  | nil => rfl
  | cons b l =>
    have e1 : onB wsC b = false := by
      cases hb : onB wsC b with
      | false => rfl
      | true => simp [runN, hb] at hw
    simp only [skipN, e1]
    cases hd : (b == 45 && l.head? == some 45) with
    | false => rfl
    | true =>
      exfalso
      simp only [Bool.and_eq_true, beq_iff_eq] at hd
      obtain ⟨rfl, h2⟩ := hd
      cases l with
      | nil => simp at h2
      | cons c l =>
        simp at h2
        subst h2
        simp [Lib.hasPrefix, List.isPrefixOf] at h
theorem run_ws0 (u : List UInt8) : runN wsC (u.drop (runN wsC u)) = 0 := by
  induction u with
  | nil => rfl
  | cons b l ih =>
    cases h : onB wsC b with
    | true => simp only [runN, h, List.drop_succ_cons]; exact ih
    | false => simp only [runN, h, List.drop_zero]
theorem run_nl_pos {u : List UInt8} (h : Lib.hasPrefix u [45, 45] = true) : 0 < runN nlC u := by
  unfold Lib.hasPrefix at h
  obtain ⟨l, rfl⟩ := List.isPrefixOf_iff_prefix.1 h
  have e1 : onB nlC 45 = true := rfl
  simp only [List.cons_append, runN, e1]
  omega
theorem skipN_le : ∀ (r : Bool) (u : List UInt8), skipN r u ≤ u.length
  | true, [] => Nat.le_refl _
  | false, [] => Nat.le_refl _
  | true, b :: l => by have := skipN_le (b != 10) l; simp only [skipN, List.length_cons]; omega
  | false, b :: l => by
    have h1 := skipN_le false l
    have h2 := skipN_le true l
    simp only [skipN, List.length_cons]
    split
    · omega
    · split <;> omega
theorem pc_pass (s : List UInt8) (hn : s.length ≤ 65536) : PC Tryz.prog GV 104 [.str s] (.int .i64 (skipN false s)) := by
  refine pc_fin EW1_ok mixed (show Tryz.prog.funcs[104]? = some Tryz.f104 from rfl) ?_
  refine loop_fam EW1_ok mixed (σ := Nat) (fun i => i ≤ s.length ∧ skipN false s = i + skipN false (s.drop i)) (fun i => s.length - i) 0 ⟨Nat.zero_le _, by simp⟩ 0 0 [0, 2] (fun i => [(3, .int .i64 i)]) [] (fun _ => []) (fun _ => []) ?_ ?_ ?_ ?_
  · rfl
  · rfl
  · refine Wk.mk' rfl rfl trivial ?_ trivial
    repeat' (refine BR.mk (fun _ => ?_) (fun _ => ?_))
    any_goals first | exact trivial | exact Wv.any _ | (refine Wv.int ?_; with_reducible rfl) | (refine Wv.str ?_; with_reducible rfl) | (refine Wv.bool ?_; with_reducible rfl) | refine Wv.int ?_ | refine Wv.str ?_ | refine Wv.bool ?_ | exact Wv.same rfl
    all_goals rfl
  · rintro i ⟨hi, hf⟩
    have hk := runN_le wsC (s.drop i)
    rw [List.length_drop] at hk
    have w1 : IntKind.i64.wrap ((i : Int) + (runN wsC (s.drop i) : Nat)) = ((i + runN wsC (s.drop i) : Nat) : Int) := (wrap_id (by unfold i64; omega)).trans (by omega)
    have hm := runN_le nlC (s.drop (i + runN wsC (s.drop i)))
    rw [List.length_drop] at hm
    have hs1 := skip_ws (s.drop i)
    rw [List.drop_drop] at hs1
    have hz := run_ws0 (s.drop i)
    rw [List.drop_drop] at hz
    have hd := @skip_dash (s.drop (i + runN wsC (s.drop i)))
    have hp := @run_nl_pos (s.drop (i + runN wsC (s.drop i)))
    have hnn := @skip_none (s.drop (i + runN wsC (s.drop i)))
    rw [List.drop_drop] at hd
    have w2 : IntKind.i64.wrap ((runN wsC (s.drop i) : Nat) + (runN nlC (s.drop (i + runN wsC (s.drop i))) : Nat)) = ((runN wsC (s.drop i) + runN nlC (s.drop (i + runN wsC (s.drop i))) : Nat) : Int) := (wrap_id (by unfold i64; omega)).trans (by omega)
    have w3 : IntKind.i64.wrap ((i : Int) + (runN wsC (s.drop i) + runN nlC (s.drop (i + runN wsC (s.drop i))) : Nat)) = ((i + (runN wsC (s.drop i) + runN nlC (s.drop (i + runN wsC (s.drop i)))) : Nat) : Int) := (wrap_id (by unfold i64; omega)).trans (by omega)
    repeat' (refine BR.mk (fun h => ?_) (fun h => ?_) <;> try contradiction)
    all_goals simp only [kind_ws, kind_nl, Int.toNat_natCast, w1, w2, w3, decide_eq_true_eq, decide_eq_false_iff_not, beq_iff_eq, beq_eq_false_iff_ne, ne_eq] at *
    all_goals try exact ⟨by omega, by omega⟩
    all_goals try (simp only [List.length_drop]; exact ⟨rfl, by omega⟩)
    all_goals try (exfalso; have := hp (by assumption); omega)
    all_goals first
      | (refine Fini.mk (congrArg (AV.int .i64) ?_); have := hnn (by assumption) hz; omega)
      | (have hdd := hd (by assumption); have hpp := hp (by assumption); refine Again.fam (i + (runN wsC (s.drop i) + runN nlC (s.drop (i + runN wsC (s.drop i))))) ⟨by omega, ?_⟩ (by omega) rfl rfl rfl rfl trivial ?_ trivial)
      | (refine Again.fam (i + runN wsC (s.drop i)) ⟨by omega, ?_⟩ (by omega) rfl rfl rfl rfl trivial ?_ trivial)
    all_goals try (rw [← Nat.add_assoc]; omega)
    all_goals try omega
    repeat' (refine BR.mk (fun _ => ?_) (fun _ => ?_))
    all_goals (any_goals first | exact trivial | exact Wv.any _ | (refine Wv.int ?_; with_reducible rfl) | (refine Wv.str ?_; with_reducible rfl) | (refine Wv.bool ?_; with_reducible rfl) | refine Wv.int ?_ | refine Wv.str ?_ | refine Wv.bool ?_ | exact Wv.same rfl)
    all_goals (rw [wrap_id (by unfold i64; omega)]; simp only [Int.natCast_add])

def h_pass : List AV → CR
  | [.str s] => .need (s.length ≤ 65536) (.int .i64 (skipN false s))
  | _ => .no
theorem h_pass_ok (xs : List AV) : CRok Tryz.prog GV 104 xs (h_pass xs) := by
  unfold h_pass
  split
  · rename_i s
    exact fun hn => pc_pass s hn
  · trivial
def EW2 : Env := EW1.add 104 h_pass
theorem EW2_ok : EnvOk Tryz.prog EW2 := Env.add_ok EW1_ok (by kernel_rfl) h_pass_ok
end Go.Proofs.YtejepcnoflahkaaGreatDoor
