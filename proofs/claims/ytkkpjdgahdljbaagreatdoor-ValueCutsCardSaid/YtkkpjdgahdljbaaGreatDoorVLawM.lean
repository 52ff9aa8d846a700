/- the parts of value.Call: the walk. WRITTEN BY A SMALL PROGRAM of this session (laws.py). -/
import Derived.Test.YtkkpjdgahdljbaaGreatDoorVLawR
import Derived.Test.YtkkpjdgahdljbaaGreatDoorVLawA
namespace Go.Proofs.YtkkpjdgahdljbaaGreatDoor
open Go Go.Ab
set_option linter.unusedVariables false
set_option linter.unusedSimpArgs false
set_option maxRecDepth 100000
set_option maxHeartbeats 8000000

theorem pc_c1 (v : V) : PC Tryz.prog GV 73 [encV v] (.bool (!right v)) := by
  refine pc_fin E10_ok mixed (show Tryz.prog.funcs[73]? = some Tryz.f73 from rfl) ?_
  repeat' (refine BR.mk (fun h => ?_) (fun h => ?_) <;> try contradiction)
  all_goals exact Fini.mk rfl

def h_c1 : List AV → CR
  | [.agg [.int .u8 k, .int .i64 n, .str s]] => .yes (.bool (!right ⟨k, n, s⟩))
  | _ => .no
theorem h_c1_ok (xs : List AV) : CRok Tryz.prog GV 73 xs (h_c1 xs) := by
  unfold h_c1
  split
  · rename_i k n s
    exact pc_c1 ⟨k, n, s⟩
  · trivial
def E11_0 : Env := E10.add 73 h_c1
theorem E11_0_ok : EnvOk Tryz.prog E11_0 := Env.add_ok E10_ok (by kernel_rfl) h_c1_ok

theorem pc_c2 (v : V) : PC Tryz.prog GV 74 [encV v] (.bool (v.k == 0)) := by
  refine pc_fin E11_0_ok mixed (show Tryz.prog.funcs[74]? = some Tryz.f74 from rfl) ?_
  repeat' (refine BR.mk (fun h => ?_) (fun h => ?_) <;> try contradiction)
  all_goals exact Fini.mk rfl

def h_c2 : List AV → CR
  | [.agg [.int .u8 k, .int .i64 n, .str s]] => .yes (.bool (k == 0))
  | _ => .no
theorem h_c2_ok (xs : List AV) : CRok Tryz.prog GV 74 xs (h_c2 xs) := by
  unfold h_c2
  split
  · rename_i k n s
    exact pc_c2 ⟨k, n, s⟩
  · trivial
def E11_1 : Env := E11_0.add 74 h_c2
theorem E11_1_ok : EnvOk Tryz.prog E11_1 := Env.add_ok E11_0_ok (by kernel_rfl) h_c2_ok

def findP (p : V → Bool) (g : Nat → V) : Nat → Nat → Int
  | _, 0 => -1
  | i, k + 1 => if p (g i) then i else findP p g (i + 1) k
theorem findP_step {p : V → Bool} {g : Nat → V} {i n : Nat} (h : i < n) : findP p g i (n - i) = if p (g i) then (i : Int) else findP p g (i + 1) (n - (i + 1)) := by
  rw [show n - i = (n - (i + 1)) + 1 from by omega]; rfl
theorem findP_iff (p : V → Bool) (g : Nat → V) : ∀ (k i : Nat), (findP p g i k ≥ 0 ↔ ((List.range' i k).any fun j => p (g j)) = true)
  | 0, i => by simp [findP]
  | k + 1, i => by
    simp only [findP, List.range'_succ, List.any_cons, Bool.or_eq_true]
    have ih := findP_iff p g k (i + 1)
    by_cases h : p (g i) = true
    · rw [if_pos h]; exact ⟨fun _ => .inl h, fun _ => by omega⟩
    · rw [if_neg h, ih]; exact ⟨.inr, fun hh => hh.resolve_left h⟩
def anyP (p : V → Bool) (g : Nat → V) : Nat → Nat → Bool
  | _, 0 => false
  | i, k + 1 => p (g i) || anyP p g (i + 1) k
theorem anyP_iff (p : V → Bool) (g : Nat → V) : ∀ (k i : Nat), findP p g i k ≥ 0 ↔ anyP p g i k = true
  | 0, i => by simp [findP, anyP]
  | k + 1, i => by
    simp only [findP, anyP, Bool.or_eq_true]
    rw [← anyP_iff p g k (i + 1)]
    by_cases h : p (g i) = true
    · rw [if_pos h]; exact ⟨fun _ => .inl h, fun _ => by omega⟩
    · rw [if_neg h]; exact ⟨.inr, fun hh => hh.resolve_left h⟩
theorem anyP_is (p : V → Bool) (g : Nat → V) (k i : Nat) : decide (findP p g i k ≥ 0) = anyP p g i k := by
  rw [Bool.eq_iff_iff, decide_eq_true_iff]
  exact anyP_iff p g k i
def notR (v : V) : Bool := !right v
def isN (v : V) : Bool := v.k == 0

theorem pc_idxP0 (n : Nat) (g : Nat → V) (hn : n ≤ 9223372036854775807) : PC Tryz.prog GV 157 [.sl .no n (fun i => encV (g i)), .clo 73 [] []] (.int .i64 (findP notR g 0 n)) := by
  refine pc_fin E11_1_ok mixed (show Tryz.prog.funcs[157]? = some Tryz.f157 from rfl) ?_
  refine loop_fam E11_1_ok mixed (σ := Nat) (fun i => i ≤ n ∧ findP notR g 0 n = findP notR g i (n - i)) (fun i => n - i) 0 ⟨Nat.zero_le _, rfl⟩ 0 0 [0, 1, 4, 6, 7] (fun i => [(8, .int .i64 i)]) [] (fun _ => []) (fun _ => []) ?_ ?_ ?_ ?_
  · rfl
  · rfl
  · refine Wk.mk' rfl rfl trivial ?_ trivial
    repeat' (refine BR.mk (fun _ => ?_) (fun _ => ?_))
    any_goals first | exact trivial | exact Wv.any _ | (refine Wv.int ?_; with_reducible rfl) | (refine Wv.str ?_; with_reducible rfl) | (refine Wv.bool ?_; with_reducible rfl) | refine Wv.int ?_ | refine Wv.str ?_ | refine Wv.bool ?_ | exact Wv.same rfl
    rfl
  · rintro i ⟨hi, hf⟩
    repeat' (refine BR.mk (fun h => ?_) (fun h => ?_) <;> try contradiction)
    · rename_i h1
      simp only [decide_eq_true_eq] at h1
      exact ⟨by omega, rfl, rfl⟩
    · refine Fini.mk ?_
      rename_i h1 _
      simp only [decide_eq_true_eq] at h1
      rw [hf, findP_step (by omega)]
      exact congrArg _ (if_pos (show notR (g i) = true from h)).symm
    · rename_i h1 _
      simp only [decide_eq_true_eq] at h1
      have h2 : i < n := by omega
      refine Again.fam (i + 1) ⟨h2, ?_⟩ (by omega) rfl rfl rfl rfl trivial ?_ trivial
      · rw [hf, findP_step h2]
        exact if_neg (by have h' : notR (g i) = false := h; rw [h']; decide)
      repeat' (refine BR.mk (fun _ => ?_) (fun _ => ?_))
      any_goals first | exact trivial | exact Wv.any _ | (refine Wv.int ?_; with_reducible rfl) | (refine Wv.str ?_; with_reducible rfl) | (refine Wv.bool ?_; with_reducible rfl) | refine Wv.int ?_ | refine Wv.str ?_ | refine Wv.bool ?_ | exact Wv.same rfl
      rw [wrap_id (by unfold i64; omega)]
      rfl
    · simp only [decide_eq_false_iff_not] at h
      refine Fini.mk ?_
      have : i = n := by omega
      subst this
      rw [hf, Nat.sub_self]
      rfl

theorem pc_idxP1 (n : Nat) (g : Nat → V) (hn : n ≤ 9223372036854775807) : PC Tryz.prog GV 157 [.sl .no n (fun i => encV (g i)), .clo 74 [] []] (.int .i64 (findP isN g 0 n)) := by
  refine pc_fin E11_1_ok mixed (show Tryz.prog.funcs[157]? = some Tryz.f157 from rfl) ?_
  refine loop_fam E11_1_ok mixed (σ := Nat) (fun i => i ≤ n ∧ findP isN g 0 n = findP isN g i (n - i)) (fun i => n - i) 0 ⟨Nat.zero_le _, rfl⟩ 0 0 [0, 1, 4, 6, 7] (fun i => [(8, .int .i64 i)]) [] (fun _ => []) (fun _ => []) ?_ ?_ ?_ ?_
  · rfl
  · rfl
  · refine Wk.mk' rfl rfl trivial ?_ trivial
    repeat' (refine BR.mk (fun _ => ?_) (fun _ => ?_))
    any_goals first | exact trivial | exact Wv.any _ | (refine Wv.int ?_; with_reducible rfl) | (refine Wv.str ?_; with_reducible rfl) | (refine Wv.bool ?_; with_reducible rfl) | refine Wv.int ?_ | refine Wv.str ?_ | refine Wv.bool ?_ | exact Wv.same rfl
    rfl
  · rintro i ⟨hi, hf⟩
    repeat' (refine BR.mk (fun h => ?_) (fun h => ?_) <;> try contradiction)
    · rename_i h1
      simp only [decide_eq_true_eq] at h1
      exact ⟨by omega, rfl, rfl⟩
    · refine Fini.mk ?_
      rename_i h1 _
      simp only [decide_eq_true_eq] at h1
      rw [hf, findP_step (by omega)]
      exact congrArg _ (if_pos (show isN (g i) = true from h)).symm
    · rename_i h1 _
      simp only [decide_eq_true_eq] at h1
      have h2 : i < n := by omega
      refine Again.fam (i + 1) ⟨h2, ?_⟩ (by omega) rfl rfl rfl rfl trivial ?_ trivial
      · rw [hf, findP_step h2]
        exact if_neg (by have h' : isN (g i) = false := h; rw [h']; decide)
      repeat' (refine BR.mk (fun _ => ?_) (fun _ => ?_))
      any_goals first | exact trivial | exact Wv.any _ | (refine Wv.int ?_; with_reducible rfl) | (refine Wv.str ?_; with_reducible rfl) | (refine Wv.bool ?_; with_reducible rfl) | refine Wv.int ?_ | refine Wv.str ?_ | refine Wv.bool ?_ | exact Wv.same rfl
      rw [wrap_id (by unfold i64; omega)]
      rfl
    · simp only [decide_eq_false_iff_not] at h
      refine Fini.mk ?_
      have : i = n := by omega
      subst this
      rw [hf, Nat.sub_self]
      rfl

def idxP (c : Nat) : V → Bool := match Nat.beq c 73 with
  | true => notR
  | false => isN
theorem pc_idxF (tag : Tag) (n : Nat) (f : Nat → AV) (c : Nat) (hn : (c = 73 ∨ c = 74) ∧ n ≤ 9223372036854775807 ∧ ∀ i, i < n → isVA (f i) = true) : PC Tryz.prog GV 157 [.sl tag n f, .clo c [] []] (.int .i64 (findP (idxP c) (fun i => vOf (f i)) 0 n)) := by
  obtain ⟨hc, hn1, hn2⟩ := hn
  have key : PC Tryz.prog GV 157 [.sl .no n (fun i => encV (vOf (f i))), .clo c [] []] (.int .i64 (findP (idxP c) (fun i => vOf (f i)) 0 n)) := by
    rcases hc with rfl | rfl
    · exact pc_idxP0 n (fun i => vOf (f i)) hn1
    · exact pc_idxP1 n (fun i => vOf (f i)) hn1
  refine pc_args ?_ key
  intro X vs h
  cases h with | cons h hs => exact .cons (rep_slice (fun i hi => isVA_eq (hn2 i hi)) (rep_tag h)) hs

def h_idxF : List AV → CR
  | [.sl tag n f, .clo c [] []] => .need ((c = 73 ∨ c = 74) ∧ n ≤ 9223372036854775807 ∧ ∀ i, i < n → isVA (f i) = true) (.int .i64 (findP (idxP c) (fun i => vOf (f i)) 0 n))
  | _ => .no
theorem h_idxF_ok (xs : List AV) : CRok Tryz.prog GV 157 xs (h_idxF xs) := by
  unfold h_idxF
  split
  · rename_i tag n f c
    exact fun hn => pc_idxF tag n f c hn
  · trivial
def E11_2 : Env := E11_1.add 157 h_idxF
theorem E11_2_ok : EnvOk Tryz.prog E11_2 := Env.add_ok E11_1_ok (by kernel_rfl) h_idxF_ok

theorem pc_ctn0 (n : Nat) (g : Nat → V) (hn : n ≤ 9223372036854775807) : PC Tryz.prog GV 72 [.sl .no n (fun i => encV (g i)), .clo 73 [] []] (.bool (anyP notR g 0 n)) := by
  refine pc_fin E11_2_ok mixed (show Tryz.prog.funcs[72]? = some Tryz.f72 from rfl) ?_
  repeat' (refine BR.mk (fun h => ?_) (fun h => ?_) <;> try contradiction)
  · exact And.intro (Or.inl rfl) (And.intro hn (fun i hi => rfl))
  · exact Fini.mk (congrArg AV.bool (anyP_is _ _ _ _))

theorem pc_ctn1 (n : Nat) (g : Nat → V) (hn : n ≤ 9223372036854775807) : PC Tryz.prog GV 72 [.sl .no n (fun i => encV (g i)), .clo 74 [] []] (.bool (anyP isN g 0 n)) := by
  refine pc_fin E11_2_ok mixed (show Tryz.prog.funcs[72]? = some Tryz.f72 from rfl) ?_
  repeat' (refine BR.mk (fun h => ?_) (fun h => ?_) <;> try contradiction)
  · exact And.intro (Or.inr rfl) (And.intro hn (fun i hi => rfl))
  · exact Fini.mk (congrArg AV.bool (anyP_is _ _ _ _))

theorem pc_ctn (tag : Tag) (n : Nat) (f : Nat → AV) (c : Nat) (hn : (c = 73 ∨ c = 74) ∧ n ≤ 9223372036854775807 ∧ ∀ i, i < n → isVA (f i) = true) : PC Tryz.prog GV 72 [.sl tag n f, .clo c [] []] (.bool (anyP (idxP c) (fun i => vOf (f i)) 0 n)) := by
  obtain ⟨hc, hn1, hn2⟩ := hn
  have key : PC Tryz.prog GV 72 [.sl .no n (fun i => encV (vOf (f i))), .clo c [] []] (.bool (anyP (idxP c) (fun i => vOf (f i)) 0 n)) := by
    rcases hc with rfl | rfl
    · exact pc_ctn0 n (fun i => vOf (f i)) hn1
    · exact pc_ctn1 n (fun i => vOf (f i)) hn1
  refine pc_args ?_ key
  intro X vs h
  cases h with | cons h hs => exact .cons (rep_slice (fun i hi => isVA_eq (hn2 i hi)) (rep_tag h)) hs

def h_ctn : List AV → CR
  | [.sl tag n f, .clo c [] []] => .need ((c = 73 ∨ c = 74) ∧ n ≤ 9223372036854775807 ∧ ∀ i, i < n → isVA (f i) = true) (.bool (anyP (idxP c) (fun i => vOf (f i)) 0 n))
  | _ => .no
theorem h_ctn_ok (xs : List AV) : CRok Tryz.prog GV 72 xs (h_ctn xs) := by
  unfold h_ctn
  split
  · rename_i tag n f c
    exact fun hn => pc_ctn tag n f c hn
  · trivial
def E11_3 : Env := E11_2.add 72 h_ctn
theorem E11_3_ok : EnvOk Tryz.prog E11_3 := Env.add_ok E11_2_ok (by kernel_rfl) h_ctn_ok

@[irreducible] def knownF (nm : List UInt8) (n : Int) : Bool :=
  if nm = [108, 101, 110, 103, 116, 104] ∨ nm = [117, 112, 112, 101, 114] ∨ nm = [108, 111, 119, 101, 114] ∨ nm = [97, 98, 115] ∨ nm = [116, 121, 112, 101, 111, 102] ∨ nm = [104, 101, 120] then n == 1 else if nm = [105, 102, 110, 117, 108, 108] ∨ nm = [105, 110, 115, 116, 114] then n == 2 else if nm = [115, 117, 98, 115, 116, 114] then n == 2 || n == 3 else if nm = [99, 111, 97, 108, 101, 115, 99, 101] then decide (2 ≤ n) && decide (n ≤ 100) else false
theorem pc_Known (nm : List UInt8) (n : Int) : PC Tryz.prog GV 27 [.str nm, .int .i64 n] (.bool (knownF nm n)) := by
  refine pc_fin E11_3_ok mixed (show Tryz.prog.funcs[27]? = some Tryz.f27 from rfl) ?_
  repeat' (refine BR.mk (fun h => ?_) (fun h => ?_) <;> try contradiction)
  all_goals refine Fini.mk ?_
  all_goals unfold knownF
  all_goals first
    | (simp_all; done)
    | (simp_all; omega)

def h_Known : List AV → CR
  | [.str nm, .int .i64 n] => .yes (.bool (knownF nm n))
  | _ => .no
theorem h_Known_ok (xs : List AV) : CRok Tryz.prog GV 27 xs (h_Known xs) := by
  unfold h_Known
  split
  · rename_i nm n
    exact pc_Known nm n
  · trivial
def E11_4 : Env := E11_3.add 27 h_Known
theorem E11_4_ok : EnvOk Tryz.prog E11_4 := Env.add_ok E11_3_ok (by kernel_rfl) h_Known_ok

def nameF (k : Int) : List UInt8 := if k = 0 then [110, 117, 108, 108] else if k = 1 then [105, 110, 116, 101, 103, 101, 114] else if k = 2 then [116, 101, 120, 116] else [98, 108, 111, 98]
theorem pc_names (k : Int) (hn : 0 ≤ k ∧ k ≤ 3) : PC Tryz.prog GV 77 [.int .u8 k] (.str (nameF k)) := by
  refine pc_fin E11_4_ok mixed (show Tryz.prog.funcs[77]? = some Tryz.f77 from rfl) ?_
  have hk : k = 0 ∨ k = 1 ∨ k = 2 ∨ k = 3 := by omega
  rcases hk with rfl | rfl | rfl | rfl
  all_goals
    repeat' (refine BR.mk (fun h => ?_) (fun h => ?_) <;> try contradiction)
  all_goals first
    | exact Fini.mk rfl
    | exact And.intro (And.intro (by decide) (by decide)) (And.intro rfl rfl)
    | exact And.intro (And.intro (by decide) (by decide)) (And.intro rfl rfl)

def h_names : List AV → CR
  | [.int .u8 k] => .need (0 ≤ k ∧ k ≤ 3) (.str (nameF k))
  | _ => .no
theorem h_names_ok (xs : List AV) : CRok Tryz.prog GV 77 xs (h_names xs) := by
  unfold h_names
  split
  · rename_i k
    exact fun hn => pc_names k hn
  · trivial
def E11_5 : Env := E11_4.add 77 h_names
theorem E11_5_ok : EnvOk Tryz.prog E11_5 := Env.add_ok E11_4_ok (by kernel_rfl) h_names_ok

def firstV (g : Nat → V) : Nat → Nat → V
  | _, 0 => null
  | i, k + 1 => if (g i).k ≠ 0 then g i else firstV g (i + 1) k
theorem firstV_step {g : Nat → V} {i n : Nat} (h : i < n) : firstV g i (n - i) = if (g i).k ≠ 0 then g i else firstV g (i + 1) (n - (i + 1)) := by
  rw [show n - i = (n - (i + 1)) + 1 from by omega]; rfl
theorem pc_first0 (n : Nat) (g : Nat → V) (hn : n ≤ 9223372036854775807) : PC Tryz.prog GV 82 [.sl .no n (fun i => encV (g i))] (encV (firstV g 0 n)) := by
  refine pc_fin E11_5_ok mixed (show Tryz.prog.funcs[82]? = some Tryz.f82 from rfl) ?_
  refine loop_fam E11_5_ok mixed (σ := Nat) (fun i => i ≤ n ∧ firstV g 0 n = firstV g i (n - i)) (fun i => n - i) 0 ⟨Nat.zero_le _, rfl⟩ 1 0 [0, 2, 5, 6] (fun i => [(7, .int .i64 i)]) [0] (fun _ => []) (fun _ => []) ?_ ?_ ?_ ?_
  · rfl
  · rfl
  · refine Wk.mk' rfl rfl trivial ?_ (BR.mk (fun _ => ⟨Nat.le_of_ble_eq_true rfl, .inl ⟨rfl, _, rfl, .cons (.same rfl) (.cons (.same rfl) (.cons (.same rfl) .nil))⟩⟩) (fun _ => trivial))
    repeat' (refine BR.mk (fun _ => ?_) (fun _ => ?_))
    any_goals first | exact trivial | exact Wv.any _ | (refine Wv.int ?_; with_reducible rfl) | (refine Wv.str ?_; with_reducible rfl) | (refine Wv.bool ?_; with_reducible rfl) | refine Wv.int ?_ | refine Wv.str ?_ | refine Wv.bool ?_ | exact Wv.same rfl
    rfl
  · rintro i ⟨hi, hf⟩
    repeat' (refine BR.mk (fun h => ?_) (fun h => ?_) <;> try contradiction)
    · rename_i h1
      simp only [decide_eq_true_eq] at h1
      exact ⟨by omega, rfl, rfl⟩
    · refine Fini.mk ?_
      rename_i h1 _
      simp only [decide_eq_true_eq] at h1
      rw [hf, firstV_step (by omega), if_pos (by simpa using h)]
      rfl
    · rename_i h1 _
      simp only [decide_eq_true_eq] at h1
      have h2 : i < n := by omega
      refine Again.fam (i + 1) ⟨h2, ?_⟩ (by omega) rfl rfl rfl rfl trivial ?_ (BR.mk (fun _ => ⟨Nat.le_of_ble_eq_true rfl, .inl ⟨rfl, _, rfl, .cons (.same rfl) (.cons (.same rfl) (.cons (.same rfl) .nil))⟩⟩) (fun _ => trivial))
      · rw [hf, firstV_step h2, if_neg (by simpa using h)]
      repeat' (refine BR.mk (fun _ => ?_) (fun _ => ?_))
      any_goals first | exact trivial | exact Wv.any _ | (refine Wv.int ?_; with_reducible rfl) | (refine Wv.str ?_; with_reducible rfl) | (refine Wv.bool ?_; with_reducible rfl) | refine Wv.int ?_ | refine Wv.str ?_ | refine Wv.bool ?_ | exact Wv.same rfl
      rw [wrap_id (by unfold i64; omega)]
      rfl
    · simp only [decide_eq_false_iff_not] at h
      refine Fini.mk ?_
      have : i = n := by omega
      subst this
      rw [hf, Nat.sub_self]
      rfl
theorem pc_first (tag : Tag) (n : Nat) (f : Nat → AV) (hn : n ≤ 9223372036854775807 ∧ ∀ i, i < n → isVA (f i) = true) : PC Tryz.prog GV 82 [.sl tag n f] (encV (firstV (fun i => vOf (f i)) 0 n)) := by
  refine pc_args ?_ (pc_first0 n (fun i => vOf (f i)) hn.1)
  intro X vs h
  cases h with | cons h hs => exact .cons (rep_slice (fun i hi => isVA_eq (hn.2 i hi)) (rep_tag h)) hs

def h_first : List AV → CR
  | [.sl tag n f] => .need (n ≤ 9223372036854775807 ∧ ∀ i, i < n → isVA (f i) = true) (encV (firstV (fun i => vOf (f i)) 0 n))
  | _ => .no
theorem h_first_ok (xs : List AV) : CRok Tryz.prog GV 82 xs (h_first xs) := by
  unfold h_first
  split
  · rename_i tag n f
    exact fun hn => pc_first tag n f hn
  · trivial
def E11 : Env := E11_5.add 82 h_first
theorem E11_ok : EnvOk Tryz.prog E11 := Env.add_ok E11_5_ok (by kernel_rfl) h_first_ok

theorem rep_box {X : Cx} {tag : Tag} {n : Nat} {f : Nat → AV} {v : Value} (hn : ∀ i, i < n → isVA (f i) = true) (h : Rep X true (.cptr [.sl tag n f] 0) v) : Rep X true (.cptr [.sl .no n (fun i => encV (vOf (f i)))] 0) v := by
  cases h with | cptr h ha => cases h with | cons h hs => exact .cptr (.cons (rep_slice (fun i hi => isVA_eq (hn i hi)) (rep_tag h)) hs) ha

theorem pc_clo00 (n : Nat) (g : Nat → V) (hn : n ≤ 9223372036854775807) (h0 : 0 < n ∧ 0 ≤ (g 0).k ∧ (g 0).k ≤ 3) : PC Tryz.prog GV 75 [.cptr [.sl .no n (fun i => encV (g i))] 0] (encR (textR (nameF (g 0).k))) := by
  refine pc_fin E11_ok mixed (show Tryz.prog.funcs[75]? = some Tryz.f75 from rfl) ?_
  repeat' (refine BR.mk (fun h => ?_) (fun h => ?_) <;> try contradiction)
  all_goals try exact Fini.mk rfl
  all_goals try exact And.intro hn (fun i hi => rfl)
  all_goals try exact h0.2
  all_goals try exact And.intro (And.intro (by decide) (by omega)) (And.intro rfl rfl)
  all_goals try (show commutes _ _ = true; kernel_rfl)

theorem pc_clo10 (n : Nat) (g : Nat → V) (hn : n ≤ 9223372036854775807) : PC Tryz.prog GV 81 [.cptr [.sl .no n (fun i => encV (g i))] 0] (encR ⟨firstV g 0 n, 0⟩) := by
  refine pc_fin E11_ok mixed (show Tryz.prog.funcs[81]? = some Tryz.f81 from rfl) ?_
  repeat' (refine BR.mk (fun h => ?_) (fun h => ?_) <;> try contradiction)
  all_goals try exact Fini.mk rfl
  all_goals try exact And.intro hn (fun i hi => rfl)
  all_goals try exact h0.2
  all_goals try exact And.intro (And.intro (by decide) (by omega)) (And.intro rfl rfl)
  all_goals try (show commutes _ _ = true; kernel_rfl)

theorem pc_clo20 (n : Nat) (g : Nat → V) (hn : n ≤ 9223372036854775807) : PC Tryz.prog GV 83 [.cptr [.sl .no n (fun i => encV (g i))] 0] (encR ⟨firstV g 0 n, 0⟩) := by
  refine pc_fin E11_ok mixed (show Tryz.prog.funcs[83]? = some Tryz.f83 from rfl) ?_
  repeat' (refine BR.mk (fun h => ?_) (fun h => ?_) <;> try contradiction)
  all_goals try exact Fini.mk rfl
  all_goals try exact And.intro hn (fun i hi => rfl)
  all_goals try exact h0.2
  all_goals try exact And.intro (And.intro (by decide) (by omega)) (And.intro rfl rfl)
  all_goals try (show commutes _ _ = true; kernel_rfl)


end Go.Proofs.YtkkpjdgahdljbaaGreatDoor
