/- Contracts of functions, tier 5: WRITTEN BY A SMALL PROGRAM of this session (gen.py). -/
import Derived.Test.YtejepcnoflahkaaGreatDoorVWalk4
namespace Go.Proofs.YtejepcnoflahkaaGreatDoor
open Go Go.Ab
set_option linter.unusedVariables false
set_option linter.unusedSimpArgs false
set_option maxRecDepth 100000
set_option maxHeartbeats 4000000

theorem pc_args {P : Program} {G : World → Prop} {f : FuncId} {args args' : List AV} {r : AV} (h : ∀ X vs, RepL X true args vs → RepL X true args' vs) (hp : PC P G f args' r) : PC P G f args r :=
  fun w L cargs hg ha => hp w L cargs hg (h _ _ ha)
theorem rep_slice {X : Cx} {p : Bool} {tag : Tag} {n : Nat} {f g : Nat → AV} {v : Value} (h : ∀ i, i < n → f i = g i) (r : Rep X p (.sl tag n f) v) : Rep X p (.sl tag n g) v := by
  cases r with
  | snil f A ht hn => exact .snil _ A ht hn
  | sl b o cap sz q hz hc hr hg ha ht => exact .sl b o cap sz q hz hc (fun i hi => by rw [← h i hi]; exact hr i hi) hg ha ht
def strOf : AV → List UInt8
  | .str s => s
  | _ => []
def isStr : AV → Bool
  | .str _ => true
  | _ => false
theorem isStr_eq {x : AV} (h : isStr x = true) : x = .str (strOf x) := by cases x <;> first | rfl | cases h
def findF (s : List UInt8) (f : Nat → List UInt8) : Nat → Nat → Int
  | _, 0 => -1
  | i, k + 1 => if s == f i then i else findF s f (i + 1) k
theorem findF_step {s : List UInt8} {f : Nat → List UInt8} {i n : Nat} (h : i < n) : findF s f i (n - i) = if s == f i then (i : Int) else findF s f (i + 1) (n - (i + 1)) := by
  rw [show n - i = (n - (i + 1)) + 1 from by omega]; rfl
theorem pc_index0 (n : Nat) (f : Nat → List UInt8) (s : List UInt8) (hn : n ≤ 9223372036854775807) : PC Tryz.prog GV 128 [.sl .no n (fun i => .str (f i)), .str s] (.int .i64 (findF s f 0 n)) := by
  refine pc_fin E4_ok mixed (show Tryz.prog.funcs[128]? = some Tryz.f128 from rfl) ?_
  refine loop_fam E4_ok mixed (σ := Nat) (fun i => i ≤ n ∧ findF s f 0 n = findF s f i (n - i)) (fun i => n - i) 0 ⟨Nat.zero_le _, rfl⟩ 0 0 [0, 1, 4, 6, 7] (fun i => [(8, .int .i64 i)]) [] (fun _ => []) (fun _ => []) ?_ ?_ ?_ ?_
  · rfl
  · rfl
  · refine Wk.mk' rfl rfl trivial ?_ trivial
    repeat' (refine BR.mk (fun _ => ?_) (fun _ => ?_))
    any_goals first | exact trivial | exact Wv.any _ | (refine Wv.int ?_; with_reducible rfl) | (refine Wv.str ?_; with_reducible rfl) | (refine Wv.bool ?_; with_reducible rfl) | refine Wv.int ?_ | refine Wv.str ?_ | refine Wv.bool ?_ | exact Wv.same rfl
    rfl
  · rintro i ⟨hi, hf⟩
    repeat' (refine BR.mk (fun h => ?_) (fun h => ?_) <;> try contradiction)
    · rename_i h1 
      simp only [decide_eq_true_eq] at h1
      exact ⟨by omega, rfl, rfl⟩
    · refine Fini.mk ?_
      rename_i h1 _
      simp only [decide_eq_true_eq] at h1
      rw [hf, findF_step (by omega)]
      exact congrArg _ (if_pos h).symm
    · rename_i h1 _
      simp only [decide_eq_true_eq] at h1
      have h2 : i < n := by omega
      refine Again.fam (i + 1) ⟨h2, ?_⟩ (by omega) rfl rfl rfl rfl trivial ?_ trivial
      · rw [hf, findF_step h2]
        exact if_neg (by have h' : (s == f i) = false := h; rw [h']; decide)
      repeat' (refine BR.mk (fun _ => ?_) (fun _ => ?_))
      any_goals first | exact trivial | exact Wv.any _ | (refine Wv.int ?_; with_reducible rfl) | (refine Wv.str ?_; with_reducible rfl) | (refine Wv.bool ?_; with_reducible rfl) | refine Wv.int ?_ | refine Wv.str ?_ | refine Wv.bool ?_ | exact Wv.same rfl
      rw [wrap_id (by unfold i64; omega)]
      rfl
    · simp only [decide_eq_false_iff_not] at h
      refine Fini.mk ?_
      have : i = n := by omega
      subst this
      rw [hf, Nat.sub_self]
      rfl

theorem rep_tag {X : Cx} {tag : Tag} {n : Nat} {f : Nat → AV} {v : Value} (r : Rep X true (.sl tag n f) v) : Rep X true (.sl .no n f) v := by
  cases r with
  | snil f A ht hn => exact .snil _ A trivial (fun h => by cases h)
  | sl b o cap sz q hz hc hr hg ha ht => exact .sl b o cap sz q hz hc hr hg ha trivial
theorem pc_index (tag : Tag) (n : Nat) (f : Nat → AV) (s : List UInt8) (hn : n ≤ 9223372036854775807 ∧ ∀ i, i < n → isStr (f i) = true) : PC Tryz.prog GV 128 [.sl tag n f, .str s] (.int .i64 (findF s (fun i => strOf (f i)) 0 n)) := by
  refine pc_args ?_ (pc_index0 n (fun i => strOf (f i)) s hn.1)
  intro X vs h
  cases h with | cons h hs => exact .cons (rep_slice (fun i hi => isStr_eq (hn.2 i hi)) (rep_tag h)) hs

def h_index : List AV → CR
  | [.sl tag n f, .str s] => .need (n ≤ 9223372036854775807 ∧ ∀ i, i < n → isStr (f i) = true) (.int .i64 (findF s (fun i => strOf (f i)) 0 n))
  | _ => .no
theorem h_index_ok (xs : List AV) : CRok Tryz.prog GV 128 xs (h_index xs) := by
  unfold h_index
  split
  · rename_i tag n f s
    exact fun hn => pc_index tag n f s hn
  · trivial

theorem hasPrefix_len {t p : List UInt8} (h : Lib.hasPrefix t p = true) : p.length ≤ t.length := by
  unfold Lib.hasPrefix at h
  exact (List.isPrefixOf_iff_prefix.1 h).length_le
theorem pre_need {t p : List UInt8} (h : Lib.hasPrefix t p = true) (hp : 0 < p.length) : 0 ≤ (1 : Int) ∧ (1 : Int) ≤ (t.length : Int) := by
  have := hasPrefix_len h
  exact ⟨by decide, by omega⟩
theorem digs_stop {n : Nat} {c : UInt8} {l : List UInt8} (h : ¬ (48 ≤ c.toNat ∧ c.toNat ≤ 57)) : digs n (c :: l) = n := by simp only [digs]; rw [if_neg h]
theorem drop_at {u : List UInt8} {i : Nat} (h : i < u.length) : u.drop i = u.getD i 0 :: u.drop (i + 1) := by
  rw [List.drop_eq_getElem_cons h]
  simp [List.getD_eq_getElem?_getD, h]

theorem trimL_len (s : List UInt8) : (trimL s).length ≤ s.length := by
  unfold trimL
  exact (List.dropWhile_sublist _).length_le
theorem digs_le : ∀ (l : List UInt8) (n : Nat), n ≤ 9223372036854775808 → digs n l ≤ 9223372036854775808
  | [], n, h => h
  | c :: cs, n, h => by
    simp only [digs]
    split
    · split
      · exact Nat.le_refl _
      · exact digs_le cs _ (by omega)
    · exact h
theorem lim (b : Int) (h1 : b ≥ 48) (h2 : b ≤ 57) : IntKind.u64.wrap ((IntKind.u64.wrap (9223372036854775808 - IntKind.u64.wrap (IntKind.u8.wrap (b - 48)))).tdiv 10) = ((9223372036854775808 - (b.toNat - 48)) / 10 : Nat) ∧ IntKind.u64.wrap (IntKind.u8.wrap (b - 48)) = ((b.toNat - 48 : Nat) : Int) := by
  have : b = 48 ∨ b = 49 ∨ b = 50 ∨ b = 51 ∨ b = 52 ∨ b = 53 ∨ b = 54 ∨ b = 55 ∨ b = 56 ∨ b = 57 := by omega
  rcases this with rfl | rfl | rfl | rfl | rfl | rfl | rfl | rfl | rfl | rfl <;> exact ⟨by decide, by decide⟩
section
variable {u : List UInt8} {i n : Nat}
theorem D_end (hd : digs 0 u = digs n (u.drop i)) (h : ¬ (i : Int) < (u.length : Int)) : digs 0 u = n := by
  rw [hd, List.drop_eq_nil_of_le (by omega)]; rfl
theorem D_lo (hd : digs 0 u = digs n (u.drop i)) (h : (i : Int) < (u.length : Int)) (hb : ¬ ((u.getD (i : Int).toNat 0).toNat : Int) ≥ 48) : digs 0 u = n := by
  rw [hd, drop_at (by omega)]
  have hb : ¬ ((u.getD i 0).toNat : Int) ≥ 48 := hb
  exact digs_stop (by omega)
theorem D_hi (hd : digs 0 u = digs n (u.drop i)) (h : (i : Int) < (u.length : Int)) (hb : ¬ ((u.getD (i : Int).toNat 0).toNat : Int) ≤ 57) : digs 0 u = n := by
  rw [hd, drop_at (by omega)]
  have hb : ¬ ((u.getD i 0).toNat : Int) ≤ 57 := hb
  exact digs_stop (by omega)
theorem D_big (hd : digs 0 u = digs n (u.drop i)) (h : (i : Int) < (u.length : Int)) (h1 : ((u.getD (i : Int).toNat 0).toNat : Int) ≥ 48) (h2 : ((u.getD (i : Int).toNat 0).toNat : Int) ≤ 57)
    (hn : (n : Int) > IntKind.u64.wrap ((IntKind.u64.wrap (9223372036854775808 - IntKind.u64.wrap (IntKind.u8.wrap (((u.getD (i : Int).toNat 0).toNat : Int) - 48)))).tdiv 10)) : digs 0 u = 9223372036854775808 := by
  rw [(lim _ h1 h2).1] at hn
  have hn : (n : Int) > ((9223372036854775808 - ((u.getD i 0).toNat - 48)) / 10 : Nat) := hn
  have h1 : ((u.getD i 0).toNat : Int) ≥ 48 := h1
  have h2 : ((u.getD i 0).toNat : Int) ≤ 57 := h2
  rw [hd, drop_at (by omega)]
  simp only [digs]
  rw [if_pos (by omega), if_pos (by omega)]
theorem D_next (hd : digs 0 u = digs n (u.drop i)) (h : (i : Int) < (u.length : Int)) (h1 : ((u.getD (i : Int).toNat 0).toNat : Int) ≥ 48) (h2 : ((u.getD (i : Int).toNat 0).toNat : Int) ≤ 57)
    (hn : ¬ (n : Int) > IntKind.u64.wrap ((IntKind.u64.wrap (9223372036854775808 - IntKind.u64.wrap (IntKind.u8.wrap (((u.getD (i : Int).toNat 0).toNat : Int) - 48)))).tdiv 10)) :
    10 * n + ((u.getD i 0).toNat - 48) ≤ 9223372036854775808 ∧ digs 0 u = digs (10 * n + ((u.getD i 0).toNat - 48)) (u.drop (i + 1)) ∧
    IntKind.u64.wrap (IntKind.u64.wrap (10 * (n : Int)) + IntKind.u64.wrap (IntKind.u8.wrap (((u.getD (i : Int).toNat 0).toNat : Int) - 48))) = ((10 * n + ((u.getD i 0).toNat - 48) : Nat) : Int) := by
  rw [(lim _ h1 h2).1] at hn
  have hl := (lim _ h1 h2).2
  rw [hl]
  have hn : ¬ (n : Int) > ((9223372036854775808 - ((u.getD i 0).toNat - 48)) / 10 : Nat) := hn
  have h1 : ((u.getD i 0).toNat : Int) ≥ 48 := h1
  have h2 : ((u.getD i 0).toNat : Int) ≤ 57 := h2
  refine ⟨by omega, ?_, ?_⟩
  · rw [hd, drop_at (by omega)]
    simp only [digs]
    rw [if_pos (by omega), if_neg (by omega)]
  · show IntKind.u64.wrap (IntKind.u64.wrap (10 * (n : Int)) + (((u.getD i 0).toNat - 48 : Nat) : Int)) = _
    rw [wrapU, wrapU]; omega
end
theorem finM {v : V} {u : List UInt8} {N : Nat} (hu : signed (trimL v.s) = u) (h1 : (v.k == 1) = false) (h0 : (v.k == 0) = false) (hp : Lib.hasPrefix (trimL v.s) [45] = true) (hN : N ≤ 9223372036854775808) (hd : digs 0 u = N) :
    AV.int .i64 (IntKind.i64.wrap (0 - IntKind.i64.wrap (N : Int))) = .int .i64 (if v.k = 1 then v.n else if v.k = 0 then 0 else numS (trimL v.s)) := by
  rw [if_neg (by simpa using h1), if_neg (by simpa using h0)]
  unfold numS
  rw [if_pos hp, hu, hd, wrapI, wrapI]
  congr 1
  split <;> split <;> omega
theorem finX {v : V} {u : List UInt8} {N : Nat} (hu : signed (trimL v.s) = u) (h1 : (v.k == 1) = false) (h0 : (v.k == 0) = false) (hp : Lib.hasPrefix (trimL v.s) [45] = false) (hN : (N : Int) > 9223372036854775807) (hd : digs 0 u = N) :
    AV.int .i64 9223372036854775807 = .int .i64 (if v.k = 1 then v.n else if v.k = 0 then 0 else numS (trimL v.s)) := by
  rw [if_neg (by simpa using h1), if_neg (by simpa using h0)]
  unfold numS
  rw [if_neg (by rw [hp]; decide), hu, hd, if_pos (by omega)]
theorem finN {v : V} {u : List UInt8} {N : Nat} (hu : signed (trimL v.s) = u) (h1 : (v.k == 1) = false) (h0 : (v.k == 0) = false) (hp : Lib.hasPrefix (trimL v.s) [45] = false) (hN : ¬ (N : Int) > 9223372036854775807) (hd : digs 0 u = N) :
    AV.int .i64 (IntKind.i64.wrap (N : Int)) = .int .i64 (if v.k = 1 then v.n else if v.k = 0 then 0 else numS (trimL v.s)) := by
  rw [if_neg (by simpa using h1), if_neg (by simpa using h0)]
  unfold numS
  rw [if_neg (by rw [hp]; decide), hu, hd, if_neg (by omega), wrap_id (by unfold i64; omega)]

theorem pc_Int (v : V) (hn : v.s.length ≤ 9223372036854775807) : PC Tryz.prog GV 56 [encV v] (.int .i64 (intV v)) := by
  refine pc_fin E4_ok mixed (show Tryz.prog.funcs[56]? = some Tryz.f56 from rfl) ?_
  unfold intV
  repeat' (refine BR.mk (fun h => ?_) (fun h => ?_) <;> try contradiction)
  any_goals (refine Fini.mk ?_; simp_all; done)
  any_goals exact pre_need (by assumption) (by decide)
  · have hu : signed (trimL v.s) = List.drop (Int.toNat 1) (trimL v.s) := by unfold signed; rw [if_pos (by simp [*])]; rfl
    have hl : (List.drop (Int.toNat 1) (trimL v.s)).length ≤ 9223372036854775807 := by
      have := trimL_len v.s
      try rw [List.length_drop]
      omega
    refine loop_fam E4_ok mixed (σ := Nat × Nat) (fun p => p.1 ≤ (List.drop (Int.toNat 1) (trimL v.s)).length ∧ p.2 ≤ 9223372036854775808 ∧ digs 0 (List.drop (Int.toNat 1) (trimL v.s)) = digs p.2 ((List.drop (Int.toNat 1) (trimL v.s)).drop p.1)) (fun p => (List.drop (Int.toNat 1) (trimL v.s)).length - p.1) (0, 0) ⟨Nat.zero_le _, Nat.zero_le _, rfl⟩ 1 0 [3, 4] (fun p => [(5, .int .u64 p.2), (6, .int .i64 p.1)]) [] (fun _ => []) (fun _ => []) ?_ ?_ ?_ ?_
    · rfl
    · rfl
    · refine Wk.mk' rfl rfl trivial ?_ trivial
      repeat' (refine BR.mk (fun _ => ?_) (fun _ => ?_))
      any_goals first | exact trivial | exact Wv.any _ | (refine Wv.int ?_; with_reducible rfl) | (refine Wv.str ?_; with_reducible rfl) | (refine Wv.bool ?_; with_reducible rfl) | refine Wv.int ?_ | refine Wv.str ?_ | refine Wv.bool ?_ | exact Wv.same rfl
      all_goals rfl
    · rintro ⟨i, n⟩ ⟨hi, hn2, hd⟩
      repeat' (refine BR.mk (fun h => ?_) (fun h => ?_) <;> try contradiction)
      all_goals try refine Fini.mk ?_
      all_goals simp only [decide_eq_true_eq, decide_eq_false_iff_not] at *
      all_goals first
        | exact ⟨by omega, by assumption⟩
        | decide
        | (exfalso; simp_all; done)
        | exact finM hu (by assumption) (by assumption) (by assumption) hn2 (D_end hd (by assumption))
        | exact finM hu (by assumption) (by assumption) (by assumption) hn2 (D_lo hd (by assumption) (by assumption))
        | exact finM hu (by assumption) (by assumption) (by assumption) hn2 (D_hi hd (by assumption) (by assumption))
        | exact finM (N := 9223372036854775808) hu (by assumption) (by assumption) (by assumption) (by decide) (D_big hd (by assumption) (by assumption) (by assumption) (by assumption))
        | exact finX (N := n) hu (by assumption) (by assumption) (by assumption) (by assumption) (D_end hd (by assumption))
        | exact finX (N := n) hu (by assumption) (by assumption) (by assumption) (by assumption) (D_lo hd (by assumption) (by assumption))
        | exact finX (N := n) hu (by assumption) (by assumption) (by assumption) (by assumption) (D_hi hd (by assumption) (by assumption))
        | exact finX (N := 9223372036854775808) hu (by assumption) (by assumption) (by assumption) (by decide) (D_big hd (by assumption) (by assumption) (by assumption) (by assumption))
        | exact finN hu (by assumption) (by assumption) (by assumption) (by assumption) (D_end hd (by assumption))
        | exact finN hu (by assumption) (by assumption) (by assumption) (by assumption) (D_lo hd (by assumption) (by assumption))
        | exact finN hu (by assumption) (by assumption) (by assumption) (by assumption) (D_hi hd (by assumption) (by assumption))
        | (exfalso; omega)
        | skip
      all_goals try (obtain ⟨k1, k2, k3⟩ := D_next hd (by assumption) (by assumption) (by assumption) (by assumption))
      all_goals refine Again.fam (i + 1, _) ⟨by (try simp only [gt_iff_lt] at *); omega, k1, k2⟩ (by simp only []; omega) rfl rfl rfl rfl trivial ?_ trivial
      repeat' (refine BR.mk (fun _ => ?_) (fun _ => ?_))
      any_goals first | exact trivial | exact Wv.any _ | (refine Wv.int ?_; with_reducible rfl) | (refine Wv.str ?_; with_reducible rfl) | (refine Wv.bool ?_; with_reducible rfl) | refine Wv.int ?_ | refine Wv.str ?_ | refine Wv.bool ?_ | exact Wv.same rfl
      · exact k3
      · rw [wrap_id (by unfold i64; omega)]; rfl
  · have hu : signed (trimL v.s) = List.drop (Int.toNat 1) (trimL v.s) := by unfold signed; rw [if_pos (by simp [*])]; rfl
    have hl : (List.drop (Int.toNat 1) (trimL v.s)).length ≤ 9223372036854775807 := by
      have := trimL_len v.s
      try rw [List.length_drop]
      omega
    refine loop_fam E4_ok mixed (σ := Nat × Nat) (fun p => p.1 ≤ (List.drop (Int.toNat 1) (trimL v.s)).length ∧ p.2 ≤ 9223372036854775808 ∧ digs 0 (List.drop (Int.toNat 1) (trimL v.s)) = digs p.2 ((List.drop (Int.toNat 1) (trimL v.s)).drop p.1)) (fun p => (List.drop (Int.toNat 1) (trimL v.s)).length - p.1) (0, 0) ⟨Nat.zero_le _, Nat.zero_le _, rfl⟩ 1 0 [3, 4] (fun p => [(5, .int .u64 p.2), (6, .int .i64 p.1)]) [] (fun _ => []) (fun _ => []) ?_ ?_ ?_ ?_
    · rfl
    · rfl
    · refine Wk.mk' rfl rfl trivial ?_ trivial
      repeat' (refine BR.mk (fun _ => ?_) (fun _ => ?_))
      any_goals first | exact trivial | exact Wv.any _ | (refine Wv.int ?_; with_reducible rfl) | (refine Wv.str ?_; with_reducible rfl) | (refine Wv.bool ?_; with_reducible rfl) | refine Wv.int ?_ | refine Wv.str ?_ | refine Wv.bool ?_ | exact Wv.same rfl
      all_goals rfl
    · rintro ⟨i, n⟩ ⟨hi, hn2, hd⟩
      repeat' (refine BR.mk (fun h => ?_) (fun h => ?_) <;> try contradiction)
      all_goals try refine Fini.mk ?_
      all_goals simp only [decide_eq_true_eq, decide_eq_false_iff_not] at *
      all_goals first
        | exact ⟨by omega, by assumption⟩
        | decide
        | (exfalso; simp_all; done)
        | exact finM hu (by assumption) (by assumption) (by assumption) hn2 (D_end hd (by assumption))
        | exact finM hu (by assumption) (by assumption) (by assumption) hn2 (D_lo hd (by assumption) (by assumption))
        | exact finM hu (by assumption) (by assumption) (by assumption) hn2 (D_hi hd (by assumption) (by assumption))
        | exact finM (N := 9223372036854775808) hu (by assumption) (by assumption) (by assumption) (by decide) (D_big hd (by assumption) (by assumption) (by assumption) (by assumption))
        | exact finX (N := n) hu (by assumption) (by assumption) (by assumption) (by assumption) (D_end hd (by assumption))
        | exact finX (N := n) hu (by assumption) (by assumption) (by assumption) (by assumption) (D_lo hd (by assumption) (by assumption))
        | exact finX (N := n) hu (by assumption) (by assumption) (by assumption) (by assumption) (D_hi hd (by assumption) (by assumption))
        | exact finX (N := 9223372036854775808) hu (by assumption) (by assumption) (by assumption) (by decide) (D_big hd (by assumption) (by assumption) (by assumption) (by assumption))
        | exact finN hu (by assumption) (by assumption) (by assumption) (by assumption) (D_end hd (by assumption))
        | exact finN hu (by assumption) (by assumption) (by assumption) (by assumption) (D_lo hd (by assumption) (by assumption))
        | exact finN hu (by assumption) (by assumption) (by assumption) (by assumption) (D_hi hd (by assumption) (by assumption))
        | (exfalso; omega)
        | skip
      all_goals try (obtain ⟨k1, k2, k3⟩ := D_next hd (by assumption) (by assumption) (by assumption) (by assumption))
      all_goals refine Again.fam (i + 1, _) ⟨by (try simp only [gt_iff_lt] at *); omega, k1, k2⟩ (by simp only []; omega) rfl rfl rfl rfl trivial ?_ trivial
      repeat' (refine BR.mk (fun _ => ?_) (fun _ => ?_))
      any_goals first | exact trivial | exact Wv.any _ | (refine Wv.int ?_; with_reducible rfl) | (refine Wv.str ?_; with_reducible rfl) | (refine Wv.bool ?_; with_reducible rfl) | refine Wv.int ?_ | refine Wv.str ?_ | refine Wv.bool ?_ | exact Wv.same rfl
      · exact k3
      · rw [wrap_id (by unfold i64; omega)]; rfl
  · have hu : signed (trimL v.s) = trimL v.s := by unfold signed; rw [if_neg (by simp [*])]
    have hl : (trimL v.s).length ≤ 9223372036854775807 := by
      have := trimL_len v.s
      try rw [List.length_drop]
      omega
    refine loop_fam E4_ok mixed (σ := Nat × Nat) (fun p => p.1 ≤ (trimL v.s).length ∧ p.2 ≤ 9223372036854775808 ∧ digs 0 (trimL v.s) = digs p.2 ((trimL v.s).drop p.1)) (fun p => (trimL v.s).length - p.1) (0, 0) ⟨Nat.zero_le _, Nat.zero_le _, rfl⟩ 1 0 [3, 4] (fun p => [(5, .int .u64 p.2), (6, .int .i64 p.1)]) [] (fun _ => []) (fun _ => []) ?_ ?_ ?_ ?_
    · rfl
    · rfl
    · refine Wk.mk' rfl rfl trivial ?_ trivial
      repeat' (refine BR.mk (fun _ => ?_) (fun _ => ?_))
      any_goals first | exact trivial | exact Wv.any _ | (refine Wv.int ?_; with_reducible rfl) | (refine Wv.str ?_; with_reducible rfl) | (refine Wv.bool ?_; with_reducible rfl) | refine Wv.int ?_ | refine Wv.str ?_ | refine Wv.bool ?_ | exact Wv.same rfl
      all_goals rfl
    · rintro ⟨i, n⟩ ⟨hi, hn2, hd⟩
      repeat' (refine BR.mk (fun h => ?_) (fun h => ?_) <;> try contradiction)
      all_goals try refine Fini.mk ?_
      all_goals simp only [decide_eq_true_eq, decide_eq_false_iff_not] at *
      all_goals first
        | exact ⟨by omega, by assumption⟩
        | decide
        | (exfalso; simp_all; done)
        | exact finM hu (by assumption) (by assumption) (by assumption) hn2 (D_end hd (by assumption))
        | exact finM hu (by assumption) (by assumption) (by assumption) hn2 (D_lo hd (by assumption) (by assumption))
        | exact finM hu (by assumption) (by assumption) (by assumption) hn2 (D_hi hd (by assumption) (by assumption))
        | exact finM (N := 9223372036854775808) hu (by assumption) (by assumption) (by assumption) (by decide) (D_big hd (by assumption) (by assumption) (by assumption) (by assumption))
        | exact finX (N := n) hu (by assumption) (by assumption) (by assumption) (by assumption) (D_end hd (by assumption))
        | exact finX (N := n) hu (by assumption) (by assumption) (by assumption) (by assumption) (D_lo hd (by assumption) (by assumption))
        | exact finX (N := n) hu (by assumption) (by assumption) (by assumption) (by assumption) (D_hi hd (by assumption) (by assumption))
        | exact finX (N := 9223372036854775808) hu (by assumption) (by assumption) (by assumption) (by decide) (D_big hd (by assumption) (by assumption) (by assumption) (by assumption))
        | exact finN hu (by assumption) (by assumption) (by assumption) (by assumption) (D_end hd (by assumption))
        | exact finN hu (by assumption) (by assumption) (by assumption) (by assumption) (D_lo hd (by assumption) (by assumption))
        | exact finN hu (by assumption) (by assumption) (by assumption) (by assumption) (D_hi hd (by assumption) (by assumption))
        | (exfalso; omega)
        | skip
      all_goals try (obtain ⟨k1, k2, k3⟩ := D_next hd (by assumption) (by assumption) (by assumption) (by assumption))
      all_goals refine Again.fam (i + 1, _) ⟨by (try simp only [gt_iff_lt] at *); omega, k1, k2⟩ (by simp only []; omega) rfl rfl rfl rfl trivial ?_ trivial
      repeat' (refine BR.mk (fun _ => ?_) (fun _ => ?_))
      any_goals first | exact trivial | exact Wv.any _ | (refine Wv.int ?_; with_reducible rfl) | (refine Wv.str ?_; with_reducible rfl) | (refine Wv.bool ?_; with_reducible rfl) | refine Wv.int ?_ | refine Wv.str ?_ | refine Wv.bool ?_ | exact Wv.same rfl
      · exact k3
      · rw [wrap_id (by unfold i64; omega)]; rfl


def h_Int : List AV → CR
  | [.agg [.int .u8 vk, .int .i64 vn, .str vz]] => .need (vz.length ≤ 9223372036854775807) (.int .i64 (intV ⟨vk, vn, vz⟩))
  | _ => .no
theorem h_Int_ok (xs : List AV) : CRok Tryz.prog GV 56 xs (h_Int xs) := by
  unfold h_Int
  split
  · rename_i vk vn vz
    exact fun hn => pc_Int ⟨vk, vn, vz⟩ hn
  · trivial

def E5_0 : Env := E4.add 128 h_index
theorem E5_0_ok : EnvOk Tryz.prog E5_0 := Env.add_ok E4_ok (by kernel_rfl) h_index_ok

def E5 : Env := E5_0.add 56 h_Int
theorem E5_ok : EnvOk Tryz.prog E5 := Env.add_ok E5_0_ok (by kernel_rfl) h_Int_ok

end Go.Proofs.YtejepcnoflahkaaGreatDoor
