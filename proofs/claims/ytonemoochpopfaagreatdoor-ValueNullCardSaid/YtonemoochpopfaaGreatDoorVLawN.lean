/- ValueNull: the walk. WRITTEN BY A SMALL PROGRAM of this session (laws.py). -/
import Derived.Test.YtonemoochpopfaaGreatDoorVLawM
import Derived.Test.YtonemoochpopfaaGreatDoorVLawC
namespace Go.Proofs.YtonemoochpopfaaGreatDoor
open Go Go.Ab
set_option linter.unusedVariables false
set_option linter.unusedSimpArgs false
set_option maxRecDepth 100000
set_option maxHeartbeats 8000000

theorem pc_clo0 (tag : Tag) (n : Nat) (f : Nat → AV) (hn : n ≤ 9223372036854775807 ∧ (∀ i, i < n → isVA (f i) = true) ∧ (0 < n ∧ 0 ≤ (vOf (f 0)).k ∧ (vOf (f 0)).k ≤ 3)) : PC Tryz.prog GV 56 [.cptr [.sl tag n f] 0] (encR (textR (nameF (vOf (f 0)).k))) := by
  refine pc_args ?_ (pc_clo00 n (fun i => vOf (f i)) hn.1 hn.2.2)
  intro X vs h
  cases h with | cons h hs => exact .cons (rep_box hn.2.1 h) hs

def h_clo0 : List AV → CR
  | [.cptr [.sl tag n f] 0] => .need (n ≤ 9223372036854775807 ∧ (∀ i, i < n → isVA (f i) = true) ∧ (0 < n ∧ 0 ≤ (vOf (f 0)).k ∧ (vOf (f 0)).k ≤ 3)) (encR (textR (nameF (vOf (f 0)).k)))
  | _ => .no
theorem h_clo0_ok (xs : List AV) : CRok Tryz.prog GV 56 xs (h_clo0 xs) := by
  unfold h_clo0
  split
  · rename_i tag n f
    exact fun hn => pc_clo0 tag n f hn
  · trivial
def E12_0 : Env := E11.add 56 h_clo0
theorem E12_0_ok : EnvOk Tryz.prog E12_0 := Env.add_ok E11_ok (by kernel_rfl) h_clo0_ok

theorem pc_clo1 (tag : Tag) (n : Nat) (f : Nat → AV) (hn : n ≤ 9223372036854775807 ∧ (∀ i, i < n → isVA (f i) = true)) : PC Tryz.prog GV 60 [.cptr [.sl tag n f] 0] (encR ⟨firstV (fun i => vOf (f i)) 0 n, 0⟩) := by
  refine pc_args ?_ (pc_clo10 n (fun i => vOf (f i)) hn.1)
  intro X vs h
  cases h with | cons h hs => exact .cons (rep_box hn.2 h) hs

def h_clo1 : List AV → CR
  | [.cptr [.sl tag n f] 0] => .need (n ≤ 9223372036854775807 ∧ (∀ i, i < n → isVA (f i) = true)) (encR ⟨firstV (fun i => vOf (f i)) 0 n, 0⟩)
  | _ => .no
theorem h_clo1_ok (xs : List AV) : CRok Tryz.prog GV 60 xs (h_clo1 xs) := by
  unfold h_clo1
  split
  · rename_i tag n f
    exact fun hn => pc_clo1 tag n f hn
  · trivial
def E12_1 : Env := E12_0.add 60 h_clo1
theorem E12_1_ok : EnvOk Tryz.prog E12_1 := Env.add_ok E12_0_ok (by kernel_rfl) h_clo1_ok

theorem pc_clo2 (tag : Tag) (n : Nat) (f : Nat → AV) (hn : n ≤ 9223372036854775807 ∧ (∀ i, i < n → isVA (f i) = true)) : PC Tryz.prog GV 62 [.cptr [.sl tag n f] 0] (encR ⟨firstV (fun i => vOf (f i)) 0 n, 0⟩) := by
  refine pc_args ?_ (pc_clo20 n (fun i => vOf (f i)) hn.1)
  intro X vs h
  cases h with | cons h hs => exact .cons (rep_box hn.2 h) hs

def h_clo2 : List AV → CR
  | [.cptr [.sl tag n f] 0] => .need (n ≤ 9223372036854775807 ∧ (∀ i, i < n → isVA (f i) = true)) (encR ⟨firstV (fun i => vOf (f i)) 0 n, 0⟩)
  | _ => .no
theorem h_clo2_ok (xs : List AV) : CRok Tryz.prog GV 62 xs (h_clo2 xs) := by
  unfold h_clo2
  split
  · rename_i tag n f
    exact fun hn => pc_clo2 tag n f hn
  · trivial
def E12_2 : Env := E12_1.add 62 h_clo2
theorem E12_2_ok : EnvOk Tryz.prog E12_2 := Env.add_ok E12_1_ok (by kernel_rfl) h_clo2_ok

def callN (nm : List UInt8) (n : Nat) (g : Nat → V) : R := if nm = [116, 121, 112, 101, 111, 102] then textR (nameF (g 0).k) else if nm = [105, 102, 110, 117, 108, 108] ∨ nm = [99, 111, 97, 108, 101, 115, 99, 101] then ⟨firstV g 0 n, 0⟩ else ⟨null, 0⟩
theorem kind_of {v : V} (h : right v = true) : 0 ≤ v.k ∧ v.k ≤ 3 := by have := right_cases h; omega
theorem no_notR {g : Nat → V} : ∀ (k i : Nat), anyP notR g i k = false → ∀ j, j < k → right (g (i + j)) = true
  | 0, i, _, j, h => absurd h (Nat.not_lt_zero _)
  | k + 1, i, h, j, hj => by
    simp only [anyP, Bool.or_eq_false_iff] at h
    match j with
    | 0 => simpa [notR] using h.1
    | j + 1 =>
      have := no_notR k (i + 1) h.2 j (by omega)
      rwa [show i + (j + 1) = i + 1 + j from by omega]

theorem call_typeof (n : Nat) (g : Nat → V) (hn : n ≤ 9223372036854775807) (hk : knownF [116, 121, 112, 101, 111, 102] (n : Int) = true) (hr : anyP notR g 0 n = false) : PC Tryz.prog GV 22 [.str [116, 121, 112, 101, 111, 102], .sl .no n (fun i => encV (g i))] (encR (callN [116, 121, 112, 101, 111, 102] n g)) := by
  refine pc_fin E12_2_ok mixed (show Tryz.prog.funcs[22]? = some Tryz.f22 from rfl) ?_
  have hr' : anyP (idxP 54) g 0 n = false := hr
  repeat' (refine BR.mk (fun h => ?_) (fun h => ?_) <;> try first | contradiction | exact absurd h (by decide) | exact Bool.noConfusion (hr'.symm.trans h) | (rw [hk] at h; exact absurd h (by decide)))
  all_goals try (show commutes _ _ = true; kernel_rfl)
  all_goals try exact Fini.mk rfl
  all_goals try exact And.intro (Or.inl rfl) (And.intro hn (fun i hi => rfl))
  all_goals try exact And.intro (Or.inr rfl) (And.intro hn (fun i hi => rfl))
  all_goals try exact And.intro hn (fun i hi => rfl)
  all_goals
    have h1 : n = 1 := by
      unfold knownF at hk
      simp at hk
      omega
    subst h1
    exact And.intro hn (And.intro (fun i hi => rfl) (And.intro (by decide) (kind_of (v := g 0) (no_notR 1 0 hr 0 (by decide)))))

theorem call_ifnull (n : Nat) (g : Nat → V) (hn : n ≤ 9223372036854775807) (hk : knownF [105, 102, 110, 117, 108, 108] (n : Int) = true) (hr : anyP notR g 0 n = false) : PC Tryz.prog GV 22 [.str [105, 102, 110, 117, 108, 108], .sl .no n (fun i => encV (g i))] (encR (callN [105, 102, 110, 117, 108, 108] n g)) := by
  refine pc_fin E12_2_ok mixed (show Tryz.prog.funcs[22]? = some Tryz.f22 from rfl) ?_
  have hr' : anyP (idxP 54) g 0 n = false := hr
  repeat' (refine BR.mk (fun h => ?_) (fun h => ?_) <;> try first | contradiction | exact absurd h (by decide) | exact Bool.noConfusion (hr'.symm.trans h) | (rw [hk] at h; exact absurd h (by decide)))
  all_goals try (show commutes _ _ = true; kernel_rfl)
  all_goals try exact Fini.mk rfl
  all_goals try exact And.intro (Or.inl rfl) (And.intro hn (fun i hi => rfl))
  all_goals try exact And.intro (Or.inr rfl) (And.intro hn (fun i hi => rfl))
  all_goals try exact And.intro hn (fun i hi => rfl)

theorem call_coalesce (n : Nat) (g : Nat → V) (hn : n ≤ 9223372036854775807) (hk : knownF [99, 111, 97, 108, 101, 115, 99, 101] (n : Int) = true) (hr : anyP notR g 0 n = false) : PC Tryz.prog GV 22 [.str [99, 111, 97, 108, 101, 115, 99, 101], .sl .no n (fun i => encV (g i))] (encR (callN [99, 111, 97, 108, 101, 115, 99, 101] n g)) := by
  refine pc_fin E12_2_ok mixed (show Tryz.prog.funcs[22]? = some Tryz.f22 from rfl) ?_
  have hr' : anyP (idxP 54) g 0 n = false := hr
  repeat' (refine BR.mk (fun h => ?_) (fun h => ?_) <;> try first | contradiction | exact absurd h (by decide) | exact Bool.noConfusion (hr'.symm.trans h) | (rw [hk] at h; exact absurd h (by decide)))
  all_goals try (show commutes _ _ = true; kernel_rfl)
  all_goals try exact Fini.mk rfl
  all_goals try exact And.intro (Or.inl rfl) (And.intro hn (fun i hi => rfl))
  all_goals try exact And.intro (Or.inr rfl) (And.intro hn (fun i hi => rfl))
  all_goals try exact And.intro hn (fun i hi => rfl)

theorem call_length (n : Nat) (g : Nat → V) (hn : n ≤ 9223372036854775807) (hk : knownF [108, 101, 110, 103, 116, 104] (n : Int) = true) (hr : anyP notR g 0 n = false) (hs : anyP isN g 0 n = true) : PC Tryz.prog GV 22 [.str [108, 101, 110, 103, 116, 104], .sl .no n (fun i => encV (g i))] (encR (callN [108, 101, 110, 103, 116, 104] n g)) := by
  refine pc_fin E12_2_ok mixed (show Tryz.prog.funcs[22]? = some Tryz.f22 from rfl) ?_
  have hr' : anyP (idxP 54) g 0 n = false := hr
  have hs' : anyP (idxP 55) g 0 n = true := hs
  repeat' (refine BR.mk (fun h => ?_) (fun h => ?_) <;> try first | contradiction | exact absurd h (by decide) | exact Bool.noConfusion (hr'.symm.trans h) | exact Bool.noConfusion (hs'.symm.trans h) | (rw [hk] at h; exact absurd h (by decide)))
  all_goals try (show commutes _ _ = true; kernel_rfl)
  all_goals try exact Fini.mk rfl
  all_goals try exact And.intro (Or.inl rfl) (And.intro hn (fun i hi => rfl))
  all_goals try exact And.intro (Or.inr rfl) (And.intro hn (fun i hi => rfl))
  all_goals try exact And.intro hn (fun i hi => rfl)

theorem call_upper (n : Nat) (g : Nat → V) (hn : n ≤ 9223372036854775807) (hk : knownF [117, 112, 112, 101, 114] (n : Int) = true) (hr : anyP notR g 0 n = false) (hs : anyP isN g 0 n = true) : PC Tryz.prog GV 22 [.str [117, 112, 112, 101, 114], .sl .no n (fun i => encV (g i))] (encR (callN [117, 112, 112, 101, 114] n g)) := by
  refine pc_fin E12_2_ok mixed (show Tryz.prog.funcs[22]? = some Tryz.f22 from rfl) ?_
  have hr' : anyP (idxP 54) g 0 n = false := hr
  have hs' : anyP (idxP 55) g 0 n = true := hs
  repeat' (refine BR.mk (fun h => ?_) (fun h => ?_) <;> try first | contradiction | exact absurd h (by decide) | exact Bool.noConfusion (hr'.symm.trans h) | exact Bool.noConfusion (hs'.symm.trans h) | (rw [hk] at h; exact absurd h (by decide)))
  all_goals try (show commutes _ _ = true; kernel_rfl)
  all_goals try exact Fini.mk rfl
  all_goals try exact And.intro (Or.inl rfl) (And.intro hn (fun i hi => rfl))
  all_goals try exact And.intro (Or.inr rfl) (And.intro hn (fun i hi => rfl))
  all_goals try exact And.intro hn (fun i hi => rfl)

theorem call_lower (n : Nat) (g : Nat → V) (hn : n ≤ 9223372036854775807) (hk : knownF [108, 111, 119, 101, 114] (n : Int) = true) (hr : anyP notR g 0 n = false) (hs : anyP isN g 0 n = true) : PC Tryz.prog GV 22 [.str [108, 111, 119, 101, 114], .sl .no n (fun i => encV (g i))] (encR (callN [108, 111, 119, 101, 114] n g)) := by
  refine pc_fin E12_2_ok mixed (show Tryz.prog.funcs[22]? = some Tryz.f22 from rfl) ?_
  have hr' : anyP (idxP 54) g 0 n = false := hr
  have hs' : anyP (idxP 55) g 0 n = true := hs
  repeat' (refine BR.mk (fun h => ?_) (fun h => ?_) <;> try first | contradiction | exact absurd h (by decide) | exact Bool.noConfusion (hr'.symm.trans h) | exact Bool.noConfusion (hs'.symm.trans h) | (rw [hk] at h; exact absurd h (by decide)))
  all_goals try (show commutes _ _ = true; kernel_rfl)
  all_goals try exact Fini.mk rfl
  all_goals try exact And.intro (Or.inl rfl) (And.intro hn (fun i hi => rfl))
  all_goals try exact And.intro (Or.inr rfl) (And.intro hn (fun i hi => rfl))
  all_goals try exact And.intro hn (fun i hi => rfl)

theorem call_abs (n : Nat) (g : Nat → V) (hn : n ≤ 9223372036854775807) (hk : knownF [97, 98, 115] (n : Int) = true) (hr : anyP notR g 0 n = false) (hs : anyP isN g 0 n = true) : PC Tryz.prog GV 22 [.str [97, 98, 115], .sl .no n (fun i => encV (g i))] (encR (callN [97, 98, 115] n g)) := by
  refine pc_fin E12_2_ok mixed (show Tryz.prog.funcs[22]? = some Tryz.f22 from rfl) ?_
  have hr' : anyP (idxP 54) g 0 n = false := hr
  have hs' : anyP (idxP 55) g 0 n = true := hs
  repeat' (refine BR.mk (fun h => ?_) (fun h => ?_) <;> try first | contradiction | exact absurd h (by decide) | exact Bool.noConfusion (hr'.symm.trans h) | exact Bool.noConfusion (hs'.symm.trans h) | (rw [hk] at h; exact absurd h (by decide)))
  all_goals try (show commutes _ _ = true; kernel_rfl)
  all_goals try exact Fini.mk rfl
  all_goals try exact And.intro (Or.inl rfl) (And.intro hn (fun i hi => rfl))
  all_goals try exact And.intro (Or.inr rfl) (And.intro hn (fun i hi => rfl))
  all_goals try exact And.intro hn (fun i hi => rfl)

theorem call_instr (n : Nat) (g : Nat → V) (hn : n ≤ 9223372036854775807) (hk : knownF [105, 110, 115, 116, 114] (n : Int) = true) (hr : anyP notR g 0 n = false) (hs : anyP isN g 0 n = true) : PC Tryz.prog GV 22 [.str [105, 110, 115, 116, 114], .sl .no n (fun i => encV (g i))] (encR (callN [105, 110, 115, 116, 114] n g)) := by
  refine pc_fin E12_2_ok mixed (show Tryz.prog.funcs[22]? = some Tryz.f22 from rfl) ?_
  have hr' : anyP (idxP 54) g 0 n = false := hr
  have hs' : anyP (idxP 55) g 0 n = true := hs
  repeat' (refine BR.mk (fun h => ?_) (fun h => ?_) <;> try first | contradiction | exact absurd h (by decide) | exact Bool.noConfusion (hr'.symm.trans h) | exact Bool.noConfusion (hs'.symm.trans h) | (rw [hk] at h; exact absurd h (by decide)))
  all_goals try (show commutes _ _ = true; kernel_rfl)
  all_goals try exact Fini.mk rfl
  all_goals try exact And.intro (Or.inl rfl) (And.intro hn (fun i hi => rfl))
  all_goals try exact And.intro (Or.inr rfl) (And.intro hn (fun i hi => rfl))
  all_goals try exact And.intro hn (fun i hi => rfl)

theorem call_substr (n : Nat) (g : Nat → V) (hn : n ≤ 9223372036854775807) (hk : knownF [115, 117, 98, 115, 116, 114] (n : Int) = true) (hr : anyP notR g 0 n = false) (hs : anyP isN g 0 n = true) : PC Tryz.prog GV 22 [.str [115, 117, 98, 115, 116, 114], .sl .no n (fun i => encV (g i))] (encR (callN [115, 117, 98, 115, 116, 114] n g)) := by
  refine pc_fin E12_2_ok mixed (show Tryz.prog.funcs[22]? = some Tryz.f22 from rfl) ?_
  have hr' : anyP (idxP 54) g 0 n = false := hr
  have hs' : anyP (idxP 55) g 0 n = true := hs
  repeat' (refine BR.mk (fun h => ?_) (fun h => ?_) <;> try first | contradiction | exact absurd h (by decide) | exact Bool.noConfusion (hr'.symm.trans h) | exact Bool.noConfusion (hs'.symm.trans h) | (rw [hk] at h; exact absurd h (by decide)))
  all_goals try (show commutes _ _ = true; kernel_rfl)
  all_goals try exact Fini.mk rfl
  all_goals try exact And.intro (Or.inl rfl) (And.intro hn (fun i hi => rfl))
  all_goals try exact And.intro (Or.inr rfl) (And.intro hn (fun i hi => rfl))
  all_goals try exact And.intro hn (fun i hi => rfl)

def nmL : List (List UInt8) := [[116, 121, 112, 101, 111, 102], [105, 102, 110, 117, 108, 108], [99, 111, 97, 108, 101, 115, 99, 101], [108, 101, 110, 103, 116, 104], [117, 112, 112, 101, 114], [108, 111, 119, 101, 114], [97, 98, 115], [105, 110, 115, 116, 114], [115, 117, 98, 115, 116, 114]]
def callOk (nm : List UInt8) (n : Nat) (g : Nat → V) : Bool := nmL.contains nm && (decide (n ≤ 9223372036854775807) && (knownF nm (n : Int) && (!anyP notR g 0 n && (nm == [116, 121, 112, 101, 111, 102] || nm == [105, 102, 110, 117, 108, 108] || nm == [99, 111, 97, 108, 101, 115, 99, 101] || anyP isN g 0 n))))
theorem pc_callN (tag : Tag) (nm : List UInt8) (n : Nat) (f : Nat → AV) (hn : callOk nm n (fun i => vOf (f i)) = true ∧ ∀ i, i < n → isVA (f i) = true) : PC Tryz.prog GV 22 [.str nm, .sl tag n f] (encR (callN nm n (fun i => vOf (f i)))) := by
  obtain ⟨h, hv⟩ := hn
  simp only [callOk, Bool.and_eq_true, decide_eq_true_eq, Bool.not_eq_true', Bool.or_eq_true, beq_iff_eq, nmL, List.contains_cons, List.contains_nil, Bool.or_false] at h
  obtain ⟨h1, h2, h3, h4, h5⟩ := h
  have key : PC Tryz.prog GV 22 [.str nm, .sl .no n (fun i => encV (vOf (f i)))] (encR (callN nm n (fun i => vOf (f i)))) := by
    rcases h1 with h | h | h | h | h | h | h | h | h
    all_goals subst h
    · exact call_typeof n _ h2 h3 h4
    · exact call_ifnull n _ h2 h3 h4
    · exact call_coalesce n _ h2 h3 h4
    · exact call_length n _ h2 h3 h4 (by simpa using h5)
    · exact call_upper n _ h2 h3 h4 (by simpa using h5)
    · exact call_lower n _ h2 h3 h4 (by simpa using h5)
    · exact call_abs n _ h2 h3 h4 (by simpa using h5)
    · exact call_instr n _ h2 h3 h4 (by simpa using h5)
    · exact call_substr n _ h2 h3 h4 (by simpa using h5)
  refine pc_args ?_ key
  intro X vs h
  cases h with | cons h0 hs => cases hs with | cons h hs => exact .cons h0 (.cons (rep_slice (fun i hi => isVA_eq (hv i hi)) (rep_tag h)) hs)

def h_callN : List AV → CR
  | [.str nm, .sl tag n f] => .need (callOk nm n (fun i => vOf (f i)) = true ∧ ∀ i, i < n → isVA (f i) = true) (encR (callN nm n (fun i => vOf (f i))))
  | _ => .no
theorem h_callN_ok (xs : List AV) : CRok Tryz.prog GV 22 xs (h_callN xs) := by
  unfold h_callN
  split
  · rename_i nm tag n f
    exact fun hn => pc_callN tag nm n f hn
  · trivial
def E12_3 : Env := E12_2.add 22 h_callN
theorem E12_3_ok : EnvOk Tryz.prog E12_3 := Env.add_ok E12_2_ok (by kernel_rfl) h_callN_ok

theorem pc_calls0 (w : V) (nm : List UInt8) (n : Nat) (g : Nat → V) (hn : callOk nm n g = true) : PC Tryz.prog GV 28 [encV w, .str nm, .sl .no n (fun i => encV (g i))] (.bool (decide (callN nm n g = ⟨w, 0⟩))) := by
  refine pc_fin E12_3_ok mixed (show Tryz.prog.funcs[28]? = some Tryz.f28 from rfl) ?_
  repeat' (refine BR.mk (fun h => ?_) (fun h => ?_) <;> try contradiction)
  · exact And.intro hn (fun i hi => rfl)
  · exact Fini.mk (congrArg AV.bool ((eqV (callN nm n g).v w).trans (opR_dec (by have h2 : ((callN nm n g).e == 0) = true := h; simpa using h2))))
  · refine Fini.mk (congrArg AV.bool (Eq.symm (decide_eq_false ?_)))
    intro hh
    have h : ((callN nm n g).e == 0) = false := h
    rw [hh] at h
    cases h

theorem pc_calls (tag : Tag) (w : V) (nm : List UInt8) (n : Nat) (f : Nat → AV) (hn : callOk nm n (fun i => vOf (f i)) = true ∧ ∀ i, i < n → isVA (f i) = true) : PC Tryz.prog GV 28 [encV w, .str nm, .sl tag n f] (.bool (decide (callN nm n (fun i => vOf (f i)) = ⟨w, 0⟩))) := by
  refine pc_args ?_ (pc_calls0 w nm n (fun i => vOf (f i)) hn.1)
  intro X vs h
  cases h with | cons h0 hs => cases hs with | cons h1 hs => cases hs with | cons h hs => exact .cons h0 (.cons h1 (.cons (rep_slice (fun i hi => isVA_eq (hn.2 i hi)) (rep_tag h)) hs))

def h_callsN : List AV → CR
  | [.agg [.int .u8 k, .int .i64 m, .str s], .str nm, .sl tag n f] => .need (callOk nm n (fun i => vOf (f i)) = true ∧ ∀ i, i < n → isVA (f i) = true) (.bool (decide (callN nm n (fun i => vOf (f i)) = ⟨⟨k, m, s⟩, 0⟩)))
  | _ => .no
theorem h_callsN_ok (xs : List AV) : CRok Tryz.prog GV 28 xs (h_callsN xs) := by
  unfold h_callsN
  split
  · rename_i k m s nm tag n f
    exact fun hn => pc_calls tag ⟨k, m, s⟩ nm n f hn
  · trivial
def E12_4 : Env := E12_3.add 28 h_callsN
theorem E12_4_ok : EnvOk Tryz.prog E12_4 := Env.add_ok E12_3_ok (by kernel_rfl) h_callsN_ok

theorem pc_same0 (f g : Nat → V) : PC Tryz.prog GV 29 [.sl .no 1 (fun i => encV (f i)), .sl .no 1 (fun i => encV (g i))] (.bool (decide (f 0 = g 0))) := by
  refine pc_fin E12_4_ok mixed (show Tryz.prog.funcs[29]? = some Tryz.f29 from rfl) ?_
  refine BR.mk (fun h => absurd h (by decide)) (fun _ => ?_)
  apply loop_unroll E12_4_ok mixed 3
  repeat' (refine BR.mk (fun h => ?_) (fun h => ?_) <;> try contradiction)
  all_goals try (show commutes _ _ = true; kernel_rfl)
  all_goals try exact And.intro (And.intro (by decide) (by decide)) (And.intro rfl rfl)
  all_goals try exact absurd h (by decide)
  · refine Fini.mk (congrArg AV.bool (Eq.symm (decide_eq_false ?_)))
    intro e
    have h2 : (!(((f 0).k == (g 0).k && ((f 0).n == (g 0).n && ((f 0).s == (g 0).s && true))))) = true := h
    rw [eqV, e] at h2
    simp at h2
  · rename_i h1
    refine Fini.mk (congrArg AV.bool (Eq.symm (decide_eq_true ?_)))
    have h2 : (!(((f 0).k == (g 0).k && ((f 0).n == (g 0).n && ((f 0).s == (g 0).s && true))))) = false := h1
    rw [eqV] at h2
    simpa using h2

theorem pc_same (t1 t2 : Tag) (f g : Nat → AV) (hn : isVA (f 0) = true ∧ isVA (g 0) = true) : PC Tryz.prog GV 29 [.sl t1 1 f, .sl t2 1 g] (.bool (decide (vOf (f 0) = vOf (g 0)))) := by
  refine pc_args ?_ (pc_same0 (fun i => vOf (f i)) (fun i => vOf (g i)))
  intro X vs h
  have one : ∀ {f : Nat → AV}, isVA (f 0) = true → ∀ i, i < 1 → f i = encV (vOf (f i)) := fun h i hi => by
    obtain rfl : i = 0 := by omega
    exact isVA_eq h
  cases h with | cons h0 hs => cases hs with | cons h1 hs => exact .cons (rep_slice (one hn.1) (rep_tag h0)) (.cons (rep_slice (one hn.2) (rep_tag h1)) hs)

def h_same : List AV → CR
  | [.sl t1 1 f, .sl t2 1 g] => .need (isVA (f 0) = true ∧ isVA (g 0) = true) (.bool (decide (vOf (f 0) = vOf (g 0))))
  | _ => .no
theorem h_same_ok (xs : List AV) : CRok Tryz.prog GV 29 xs (h_same xs) := by
  unfold h_same
  split
  · rename_i t1 f t2 g
    exact fun hn => pc_same t1 t2 f g hn
  · trivial
def E12 : Env := E12_4.add 29 h_same
theorem E12_ok : EnvOk Tryz.prog E12 := Env.add_ok E12_4_ok (by kernel_rfl) h_same_ok

theorem right_null : right ⟨0, 0, []⟩ = true := by unfold right; rfl
def signs13 : List (List UInt8) := [[43], [45], [42], [47], [37], [124, 124], [61], [60, 62], [60], [60, 61], [62], [62, 61], [108, 105, 107, 101]]
theorem op_nullN {sg : List UInt8} (hs : sg ∈ signs13) {a b : V} (ha : right a = true) (hb : right b = true) (h : a.k = 0 ∨ b.k = 0) : opR sg a b = ⟨⟨0, 0, []⟩, 0⟩ := by
  unfold opR
  rw [ha, hb]
  simp only [signs13, List.mem_cons, List.not_mem_nil, or_false] at hs
  rcases hs with rfl | rfl | rfl | rfl | rfl | rfl | rfl | rfl | rfl | rfl | rfl | rfl | rfl <;> simp [known, signs, h, null]
theorem call_none {nm : List UInt8} {n : Nat} {g : Nat → V} (h : nm ∈ nmL.drop 3) : callN nm n g = ⟨⟨0, 0, []⟩, 0⟩ := by
  have h2 : nm = [108, 101, 110, 103, 116, 104] ∨ nm = [117, 112, 112, 101, 114] ∨ nm = [108, 111, 119, 101, 114] ∨ nm = [97, 98, 115] ∨ nm = [105, 110, 115, 116, 114] ∨ nm = [115, 117, 98, 115, 116, 114] := by simpa [nmL] using h
  unfold callN
  rcases h2 with rfl | rfl | rfl | rfl | rfl | rfl <;> rfl
theorem call_first {nm : List UInt8} {g : Nat → V} {a : V} (hm : nm = [105, 102, 110, 117, 108, 108] ∨ nm = [99, 111, 97, 108, 101, 115, 99, 101]) (ha : right a = true) (h : g 0 = ⟨0, 0, []⟩ ∧ g 1 = a ∨ g 0 = a ∧ g 1 = ⟨0, 0, []⟩) : callN nm 2 g = ⟨a, 0⟩ := by
  have hn : firstV g 0 2 = a := by
    have hr := right_cases ha
    rcases h with ⟨h1, h2⟩ | ⟨h1, h2⟩
    all_goals
      simp only [firstV, h1, h2]
      by_cases hk : a.k = 0
      · obtain ⟨k, m, s⟩ := a
        simp only at hk hr
        subst hk
        rcases hr with h | h | h | h <;> simp at h
        simp [h.1, h.2, null]
      · simp [hk]
  unfold callN
  rcases hm with rfl | rfl
  all_goals rw [hn]; rfl
theorem call_ty {n : Nat} {g : Nat → V} (h : g 0 = ⟨0, 0, []⟩) : callN [116, 121, 112, 101, 111, 102] n g = ⟨⟨2, 0, [110, 117, 108, 108]⟩, 0⟩ := by
  unfold callN
  rw [h]
  unfold textR
  rfl
theorem ok_of {nm : List UInt8} {n : Nat} {g : Nat → V} (h1 : nmL.contains nm = true) (h2 : n ≤ 9223372036854775807) (h3 : knownF nm (n : Int) = true) (h4 : anyP notR g 0 n = false) (h5 : (nm == [116, 121, 112, 101, 111, 102] || nm == [105, 102, 110, 117, 108, 108] || nm == [99, 111, 97, 108, 101, 115, 99, 101] || anyP isN g 0 n) = true) : callOk nm n g = true := by
  unfold callOk
  rw [h1, h3, h4, h5, decide_eq_true h2]
  rfl
theorem notR_of {v : V} (h : right v = true) : notR v = false := by simp [notR, h]
theorem any1 {g : Nat → V} (h : notR (g 0) = false) : anyP notR g 0 1 = false := by simp [anyP, h]
theorem any2 {g : Nat → V} (h : notR (g 0) = false) (h' : notR (g 1) = false) : anyP notR g 0 2 = false := by simp [anyP, h, h']
theorem any3 {g : Nat → V} (h : notR (g 0) = false) (h' : notR (g 1) = false) (h2 : notR (g 2) = false) : anyP notR g 0 3 = false := by simp [anyP, h, h', h2]
theorem nulls_of {g : Nat → V} {n : Nat} (h : isN (g 0) = true ∧ 0 < n ∨ isN (g 1) = true ∧ 1 < n ∨ isN (g 2) = true ∧ 2 < n) : anyP isN g 0 n = true := by
  match n, h with
  | 0, h => omega
  | 1, h => rcases h with h | h | h <;> first | omega | simp [anyP, h.1]
  | 2, h => rcases h with h | h | h <;> first | omega | simp [anyP, h.1]
  | n + 3, h => rcases h with h | h | h <;> simp [anyP, h.1]
theorem null_not (a : V) (h : (okR a && true) = false) : PC Tryz.prog GV 9 [encV a] (.bool true) := by
  refine pc_fin E12_ok mixed (show Tryz.prog.funcs[9]? = some Tryz.f9 from rfl) ?_
  refine BR.mk (fun _ => va_1 rfl) (fun _ => ?_)
  refine BR.mk (fun h' => ?_) (fun h' => ?_)
  · exact Fini.mk rfl
  · exfalso
    have h2 : (!(okR a && true)) = false := h'
    rw [h] at h2
    cases h2
theorem null_core (ak an : Int) (az : List UInt8) (ha : okV ⟨ak, an, az⟩) (hr : (okR ⟨ak, an, az⟩ && true) = true) : PC Tryz.prog GV 9 [.agg [.int .u8 ak, .int .i64 an, .str az]] (.bool true) := by
  refine pc_fin E12_ok mixed (show Tryz.prog.funcs[9]? = some Tryz.f9 from rfl) ?_
  refine BR.mk (fun _ => va_1 rfl) (fun _ => ?_)
  refine BR.mk (fun h' => ?_) (fun h' => ?_)
  · exfalso
    have h2 : (!(okR ⟨ak, an, az⟩ && true)) = true := h'
    rw [hr] at h2
    cases h2
  clear h'
  simp only [Bool.and_eq_true] at hr
  have ra := okR_right hr.1
  have nn := notR_of right_null
  have na := notR_of ra
  have a1 := ha.2.1
  have a2 := ha.2.2
  simp only at a1 a2
  have f1 : oneR [45] ⟨0, 0, []⟩ = ⟨⟨0, 0, []⟩, 0⟩ := by
    unfold oneR
    rw [right_null]
    simp
  have f2 : castR [116, 101, 120, 116] ⟨0, 0, []⟩ = ⟨⟨0, 0, []⟩, 0⟩ := by
    unfold castR
    rw [right_null]
    simp
  apply loop_unroll E12_ok mixed 15
  repeat' (refine BR.mk (fun h => ?_) (fun h => ?_) <;> try first | contradiction | exact absurd h (by decide) | exact Bool.noConfusion ((congrArg (fun b => !b) (decide_eq_true (op_nullN (by decide) ra right_null (.inr rfl)))).symm.trans h) | exact Bool.noConfusion ((decide_eq_true (op_nullN (by decide) ra right_null (.inr rfl))).symm.trans h) | exact Bool.noConfusion ((congrArg (fun b => !b) (decide_eq_true (op_nullN (by decide) right_null ra (.inl rfl)))).symm.trans h) | exact Bool.noConfusion ((decide_eq_true (op_nullN (by decide) right_null ra (.inl rfl))).symm.trans h) | exact Bool.noConfusion ((congrArg (fun b => !b) (decide_eq_true (call_none (by decide)))).symm.trans h) | exact Bool.noConfusion ((decide_eq_true (call_none (by decide))).symm.trans h) | exact Bool.noConfusion ((congrArg (fun b => !b) (decide_eq_true (call_first (by decide) ra (.inl ⟨rfl, rfl⟩)))).symm.trans h) | exact Bool.noConfusion ((decide_eq_true (call_first (by decide) ra (.inl ⟨rfl, rfl⟩))).symm.trans h) | exact Bool.noConfusion ((congrArg (fun b => !b) (decide_eq_true (call_first (by decide) ra (.inr ⟨rfl, rfl⟩)))).symm.trans h) | exact Bool.noConfusion ((decide_eq_true (call_first (by decide) ra (.inr ⟨rfl, rfl⟩))).symm.trans h) | exact Bool.noConfusion ((congrArg (fun b => !b) (decide_eq_true (call_ty rfl))).symm.trans h) | exact Bool.noConfusion ((decide_eq_true (call_ty rfl)).symm.trans h) | (exfalso; simp [f1, f2] at h; done))
  all_goals try (show commutes _ _ = true; kernel_rfl)
  all_goals try exact Fini.mk rfl
  all_goals try exact And.intro (And.intro (by decide) (by decide)) (And.intro rfl rfl)
  all_goals try first | exact And.intro (And.intro a1 a2) (And.intro i64_0 nil_ok) | exact And.intro (And.intro i64_0 nil_ok) (And.intro a1 a2) | exact And.intro i64_0 nil_ok | exact And.intro rfl rfl
  all_goals try first | exact And.intro (ok_of rfl (by decide) (by unfold knownF; decide) (any1 nn) rfl) (va_1 rfl).2 | exact And.intro (ok_of rfl (by decide) (by unfold knownF; decide) (any1 nn) (nulls_of (.inl ⟨rfl, by decide⟩))) (va_1 rfl).2 | exact And.intro (ok_of rfl (by decide) (by unfold knownF; decide) (any1 nn) (nulls_of (.inr (.inl ⟨rfl, by decide⟩)))) (va_1 rfl).2 | exact And.intro (ok_of rfl (by decide) (by unfold knownF; decide) (any1 nn) (nulls_of (.inr (.inr ⟨rfl, by decide⟩)))) (va_1 rfl).2
  all_goals try first | exact And.intro (ok_of rfl (by decide) (by unfold knownF; decide) (any2 nn nn) rfl) (va_2 rfl rfl).2 | exact And.intro (ok_of rfl (by decide) (by unfold knownF; decide) (any2 nn nn) (nulls_of (.inl ⟨rfl, by decide⟩))) (va_2 rfl rfl).2 | exact And.intro (ok_of rfl (by decide) (by unfold knownF; decide) (any2 nn nn) (nulls_of (.inr (.inl ⟨rfl, by decide⟩)))) (va_2 rfl rfl).2 | exact And.intro (ok_of rfl (by decide) (by unfold knownF; decide) (any2 nn nn) (nulls_of (.inr (.inr ⟨rfl, by decide⟩)))) (va_2 rfl rfl).2
  all_goals try first | exact And.intro (ok_of rfl (by decide) (by unfold knownF; decide) (any2 nn na) rfl) (va_2 rfl rfl).2 | exact And.intro (ok_of rfl (by decide) (by unfold knownF; decide) (any2 nn na) (nulls_of (.inl ⟨rfl, by decide⟩))) (va_2 rfl rfl).2 | exact And.intro (ok_of rfl (by decide) (by unfold knownF; decide) (any2 nn na) (nulls_of (.inr (.inl ⟨rfl, by decide⟩)))) (va_2 rfl rfl).2 | exact And.intro (ok_of rfl (by decide) (by unfold knownF; decide) (any2 nn na) (nulls_of (.inr (.inr ⟨rfl, by decide⟩)))) (va_2 rfl rfl).2
  all_goals try first | exact And.intro (ok_of rfl (by decide) (by unfold knownF; decide) (any2 na nn) rfl) (va_2 rfl rfl).2 | exact And.intro (ok_of rfl (by decide) (by unfold knownF; decide) (any2 na nn) (nulls_of (.inl ⟨rfl, by decide⟩))) (va_2 rfl rfl).2 | exact And.intro (ok_of rfl (by decide) (by unfold knownF; decide) (any2 na nn) (nulls_of (.inr (.inl ⟨rfl, by decide⟩)))) (va_2 rfl rfl).2 | exact And.intro (ok_of rfl (by decide) (by unfold knownF; decide) (any2 na nn) (nulls_of (.inr (.inr ⟨rfl, by decide⟩)))) (va_2 rfl rfl).2
  all_goals try first | exact And.intro (ok_of rfl (by decide) (by unfold knownF; decide) (any3 nn na na) rfl) (va_3 rfl rfl rfl).2 | exact And.intro (ok_of rfl (by decide) (by unfold knownF; decide) (any3 nn na na) (nulls_of (.inl ⟨rfl, by decide⟩))) (va_3 rfl rfl rfl).2 | exact And.intro (ok_of rfl (by decide) (by unfold knownF; decide) (any3 nn na na) (nulls_of (.inr (.inl ⟨rfl, by decide⟩)))) (va_3 rfl rfl rfl).2 | exact And.intro (ok_of rfl (by decide) (by unfold knownF; decide) (any3 nn na na) (nulls_of (.inr (.inr ⟨rfl, by decide⟩)))) (va_3 rfl rfl rfl).2
  all_goals try first | exact And.intro (ok_of rfl (by decide) (by unfold knownF; decide) (any3 na na nn) rfl) (va_3 rfl rfl rfl).2 | exact And.intro (ok_of rfl (by decide) (by unfold knownF; decide) (any3 na na nn) (nulls_of (.inl ⟨rfl, by decide⟩))) (va_3 rfl rfl rfl).2 | exact And.intro (ok_of rfl (by decide) (by unfold knownF; decide) (any3 na na nn) (nulls_of (.inr (.inl ⟨rfl, by decide⟩)))) (va_3 rfl rfl rfl).2 | exact And.intro (ok_of rfl (by decide) (by unfold knownF; decide) (any3 na na nn) (nulls_of (.inr (.inr ⟨rfl, by decide⟩)))) (va_3 rfl rfl rfl).2
  apply loop_unroll E12_ok mixed 6
  repeat' (refine BR.mk (fun h => ?_) (fun h => ?_) <;> try first | contradiction | exact absurd h (by decide) | exact Bool.noConfusion ((congrArg (fun b => !b) (decide_eq_true (op_nullN (by decide) ra right_null (.inr rfl)))).symm.trans h) | exact Bool.noConfusion ((decide_eq_true (op_nullN (by decide) ra right_null (.inr rfl))).symm.trans h) | exact Bool.noConfusion ((congrArg (fun b => !b) (decide_eq_true (op_nullN (by decide) right_null ra (.inl rfl)))).symm.trans h) | exact Bool.noConfusion ((decide_eq_true (op_nullN (by decide) right_null ra (.inl rfl))).symm.trans h) | exact Bool.noConfusion ((congrArg (fun b => !b) (decide_eq_true (call_none (by decide)))).symm.trans h) | exact Bool.noConfusion ((decide_eq_true (call_none (by decide))).symm.trans h) | exact Bool.noConfusion ((congrArg (fun b => !b) (decide_eq_true (call_first (by decide) ra (.inl ⟨rfl, rfl⟩)))).symm.trans h) | exact Bool.noConfusion ((decide_eq_true (call_first (by decide) ra (.inl ⟨rfl, rfl⟩))).symm.trans h) | exact Bool.noConfusion ((congrArg (fun b => !b) (decide_eq_true (call_first (by decide) ra (.inr ⟨rfl, rfl⟩)))).symm.trans h) | exact Bool.noConfusion ((decide_eq_true (call_first (by decide) ra (.inr ⟨rfl, rfl⟩))).symm.trans h) | exact Bool.noConfusion ((congrArg (fun b => !b) (decide_eq_true (call_ty rfl))).symm.trans h) | exact Bool.noConfusion ((decide_eq_true (call_ty rfl)).symm.trans h) | (exfalso; simp [f1, f2] at h; done))
  all_goals try (show commutes _ _ = true; kernel_rfl)
  all_goals try exact Fini.mk rfl
  all_goals try exact And.intro (And.intro (by decide) (by decide)) (And.intro rfl rfl)
  all_goals try first | exact And.intro (And.intro a1 a2) (And.intro i64_0 nil_ok) | exact And.intro (And.intro i64_0 nil_ok) (And.intro a1 a2) | exact And.intro i64_0 nil_ok | exact And.intro rfl rfl
  all_goals try first | exact And.intro (ok_of rfl (by decide) (by unfold knownF; decide) (any1 nn) rfl) (va_1 rfl).2 | exact And.intro (ok_of rfl (by decide) (by unfold knownF; decide) (any1 nn) (nulls_of (.inl ⟨rfl, by decide⟩))) (va_1 rfl).2 | exact And.intro (ok_of rfl (by decide) (by unfold knownF; decide) (any1 nn) (nulls_of (.inr (.inl ⟨rfl, by decide⟩)))) (va_1 rfl).2 | exact And.intro (ok_of rfl (by decide) (by unfold knownF; decide) (any1 nn) (nulls_of (.inr (.inr ⟨rfl, by decide⟩)))) (va_1 rfl).2
  all_goals try first | exact And.intro (ok_of rfl (by decide) (by unfold knownF; decide) (any2 nn nn) rfl) (va_2 rfl rfl).2 | exact And.intro (ok_of rfl (by decide) (by unfold knownF; decide) (any2 nn nn) (nulls_of (.inl ⟨rfl, by decide⟩))) (va_2 rfl rfl).2 | exact And.intro (ok_of rfl (by decide) (by unfold knownF; decide) (any2 nn nn) (nulls_of (.inr (.inl ⟨rfl, by decide⟩)))) (va_2 rfl rfl).2 | exact And.intro (ok_of rfl (by decide) (by unfold knownF; decide) (any2 nn nn) (nulls_of (.inr (.inr ⟨rfl, by decide⟩)))) (va_2 rfl rfl).2
  all_goals try first | exact And.intro (ok_of rfl (by decide) (by unfold knownF; decide) (any2 nn na) rfl) (va_2 rfl rfl).2 | exact And.intro (ok_of rfl (by decide) (by unfold knownF; decide) (any2 nn na) (nulls_of (.inl ⟨rfl, by decide⟩))) (va_2 rfl rfl).2 | exact And.intro (ok_of rfl (by decide) (by unfold knownF; decide) (any2 nn na) (nulls_of (.inr (.inl ⟨rfl, by decide⟩)))) (va_2 rfl rfl).2 | exact And.intro (ok_of rfl (by decide) (by unfold knownF; decide) (any2 nn na) (nulls_of (.inr (.inr ⟨rfl, by decide⟩)))) (va_2 rfl rfl).2
  all_goals try first | exact And.intro (ok_of rfl (by decide) (by unfold knownF; decide) (any2 na nn) rfl) (va_2 rfl rfl).2 | exact And.intro (ok_of rfl (by decide) (by unfold knownF; decide) (any2 na nn) (nulls_of (.inl ⟨rfl, by decide⟩))) (va_2 rfl rfl).2 | exact And.intro (ok_of rfl (by decide) (by unfold knownF; decide) (any2 na nn) (nulls_of (.inr (.inl ⟨rfl, by decide⟩)))) (va_2 rfl rfl).2 | exact And.intro (ok_of rfl (by decide) (by unfold knownF; decide) (any2 na nn) (nulls_of (.inr (.inr ⟨rfl, by decide⟩)))) (va_2 rfl rfl).2
  all_goals try first | exact And.intro (ok_of rfl (by decide) (by unfold knownF; decide) (any3 nn na na) rfl) (va_3 rfl rfl rfl).2 | exact And.intro (ok_of rfl (by decide) (by unfold knownF; decide) (any3 nn na na) (nulls_of (.inl ⟨rfl, by decide⟩))) (va_3 rfl rfl rfl).2 | exact And.intro (ok_of rfl (by decide) (by unfold knownF; decide) (any3 nn na na) (nulls_of (.inr (.inl ⟨rfl, by decide⟩)))) (va_3 rfl rfl rfl).2 | exact And.intro (ok_of rfl (by decide) (by unfold knownF; decide) (any3 nn na na) (nulls_of (.inr (.inr ⟨rfl, by decide⟩)))) (va_3 rfl rfl rfl).2
  all_goals try first | exact And.intro (ok_of rfl (by decide) (by unfold knownF; decide) (any3 na na nn) rfl) (va_3 rfl rfl rfl).2 | exact And.intro (ok_of rfl (by decide) (by unfold knownF; decide) (any3 na na nn) (nulls_of (.inl ⟨rfl, by decide⟩))) (va_3 rfl rfl rfl).2 | exact And.intro (ok_of rfl (by decide) (by unfold knownF; decide) (any3 na na nn) (nulls_of (.inr (.inl ⟨rfl, by decide⟩)))) (va_3 rfl rfl rfl).2 | exact And.intro (ok_of rfl (by decide) (by unfold knownF; decide) (any3 na na nn) (nulls_of (.inr (.inr ⟨rfl, by decide⟩)))) (va_3 rfl rfl rfl).2
  all_goals exact And.intro rfl (And.intro (by decide) (And.intro (by decide) (And.intro (by decide) (And.intro rfl (by decide)))))
theorem pc_nullLaw (a : V) (ha : okV a) : PC Tryz.prog GV 9 [encV a] (.bool true) := by
  cases hr : (okR a && true) with
  | false => exact null_not a hr
  | true =>
    obtain ⟨ak, an, az⟩ := a
    exact null_core ak an az ha hr


end Go.Proofs.YtonemoochpopfaaGreatDoor
