/- words: half, blob, quoted. -/
import Derived.Test.YtejepcnoflahkaaGreatDoorWWalk1
import Derived.Test.YtejepcnoflahkaaGreatDoorBld3
namespace Go.Proofs.YtejepcnoflahkaaGreatDoor
open Go Go.Ab
set_option linter.unusedVariables false
set_option linter.unusedSimpArgs false
set_option maxRecDepth 100000
set_option maxHeartbeats 4000000

theorem pc_idxB (s : List UInt8) (c : Int) : PC Tryz.prog GV 182 [.str s, .int .u8 c] (.int .i64 (Lib.indexByte s c.toNat.toUInt8)) := by
  refine pc_same (cargs := [.string ⟨s.toArray⟩, .int .u8 c]) (cv := .int .i64 (Lib.indexByte s c.toNat.toUInt8)) (fun X vs h => repSI h) (fun X => .int ..) (fun w hg => ?_)
  simpa using Tryz.strings_IndexByte ⟨s.toArray⟩ c w
def h_idxB : List AV → CR
  | [.str s, .int .u8 c] => .yes (.int .i64 (Lib.indexByte s c.toNat.toUInt8))
  | _ => .no
theorem h_idxB_ok (xs : List AV) : CRok Tryz.prog GV 182 xs (h_idxB xs) := by
  unfold h_idxB
  split
  · rename_i s c
    exact pc_idxB s c
  · trivial
def EW3 : Env := EW2.add 182 h_idxB
theorem EW3_ok : EnvOk Tryz.prog EW3 := Env.add_ok EW2_ok (by kernel_rfl) h_idxB_ok

/-! ### half -/
def d16 : List UInt8 := [48, 49, 50, 51, 52, 53, 54, 55, 56, 57, 97, 98, 99, 100, 101, 102]
def orC (c : Int) : Int := IntKind.u8.wrap ↑(BitVec.ofInt IntKind.u8.bits c ||| BitVec.ofInt IntKind.u8.bits 32).toNat
def halfN (c : Int) : Int := Lib.indexByte d16 (orC c).toNat.toUInt8
def halfV (c : Int) : Int := if digC c then IntKind.u8.wrap (c - 48) else IntKind.u8.wrap (halfN c)
def halfK (c : Int) : Bool := digC c || decide (halfN c ≥ 10) && letC c
theorem half_all : ∀ n : Fin 256, halfK (n.val : Nat) = (halfS (UInt8.ofNat n.val)).isSome ∧ (halfK (n.val : Nat) = true → halfV (n.val : Nat) = ((halfS (UInt8.ofNat n.val)).getD 0 : Nat)) ∧ (halfS (UInt8.ofNat n.val)).getD 0 < 16 := by decide +kernel
theorem half_is (b : UInt8) : halfK b.toNat = (halfS b).isSome ∧ (halfK b.toNat = true → halfV b.toNat = ((halfS b).getD 0 : Nat)) ∧ (halfS b).getD 0 < 16 := by
  have := half_all ⟨b.toNat, b.toNat_lt⟩
  simpa using this
theorem pc_half (c : Int) : PC Tryz.prog GV 181 [.int .u8 c] (.tup [.int .u8 (halfV c), .bool (halfK c)]) := by
  refine pc_fin EW3_ok mixed (show Tryz.prog.funcs[181]? = some Tryz.f181 from rfl) ?_
  repeat' (refine BR.mk (fun h => ?_) (fun h => ?_) <;> try contradiction)
  all_goals refine Fini.mk ?_
  · have h' : digC c = true := h
    unfold halfV halfK
    rw [h']; rfl
  · rename_i h1
    have h' : digC c = false := h1
    have h2 : decide (halfN c ≥ 10) = true := h
    unfold halfV halfK
    rw [h', h2]; rfl
  · rename_i h1
    have h' : digC c = false := h1
    have h2 : decide (halfN c ≥ 10) = false := h
    unfold halfV halfK
    rw [h', h2]; rfl
def h_half : List AV → CR
  | [.int .u8 c] => .yes (.tup [.int .u8 (halfV c), .bool (halfK c)])
  | _ => .no
theorem h_half_ok (xs : List AV) : CRok Tryz.prog GV 181 xs (h_half xs) := by
  unfold h_half
  split
  · rename_i c
    exact pc_half c
  · trivial
def EW4 : Env := EW3.add 181 h_half
theorem EW4_ok : EnvOk Tryz.prog EW4 := Env.add_ok EW3_ok (by kernel_rfl) h_half_ok

/-! ### blob -/
def pairR (x : Option (List UInt8 × Nat)) (k : Nat) : AV :=
  .tup [.str (match x with | some p => p.1 | none => []), .int .i64 (match x with | some p => ((p.2 + k : Nat) : Int) | none => 0)]
def more (o : List UInt8) (k : Nat) (x : Option (List UInt8 × Nat)) : Option (List UInt8 × Nat) := x.map fun p => (o ++ p.1, p.2 + k)
theorem more_more (o o' : List UInt8) (k k' : Nat) (x) : more o k (more o' k' x) = more (o ++ o') (k' + k) x := by
  cases x <;> simp [more, Nat.add_assoc]
theorem more_nil (x) : more [] 0 x = x := by cases x <;> simp [more]
theorem byte_or (x y : Int) (hx : 0 ≤ x ∧ x < 16) (hy : 0 ≤ y ∧ y < 16) : IntKind.u8.wrap ↑(BitVec.ofInt IntKind.u8.bits (IntKind.u8.wrap (x * 2 ^ min (Int.toNat 4) IntKind.u8.bits)) ||| BitVec.ofInt IntKind.u8.bits y).toNat = 16 * x + y := by
  have h : ∀ a b : Fin 16, IntKind.u8.wrap ↑(BitVec.ofInt IntKind.u8.bits (IntKind.u8.wrap ((a.val : Int) * 2 ^ min (Int.toNat 4) IntKind.u8.bits)) ||| BitVec.ofInt IntKind.u8.bits (b.val : Int)).toNat = 16 * (a.val : Int) + (b.val : Int) := by decide +kernel
  have := h ⟨x.toNat, by omega⟩ ⟨y.toNat, by omega⟩
  have e1 : ((x.toNat : Nat) : Int) = x := by omega
  have e2 : ((y.toNat : Nat) : Int) = y := by omega
  simpa only [e1, e2] using this
theorem bloS_end : ∀ {u : List UInt8}, u.length = 0 → bloS u = none
  | [], _ => rfl
  | _ :: _, h => by simp at h
theorem bloS_quote {u : List UInt8} {l : List UInt8} (h : u = 39 :: l) : bloS u = some ([], 1) := by subst h; rfl
theorem bloS_one {b : UInt8} (h : b ≠ 39) : bloS [b] = none := by
  have : (b == 39) = false := by simpa using h
  simp [bloS, this]
theorem bloS_no {b c : UInt8} {l : List UInt8} (h : b ≠ 39) (hx : (halfS b).isSome = false ∨ (halfS c).isSome = false) : bloS (b :: c :: l) = none := by
  have hb : (b == 39) = false := by simpa using h
  simp only [bloS, hb]
  cases h1 : halfS b with
  | none => rfl
  | some x => cases h2 : halfS c with
    | none => rfl
    | some y => simp [h1, h2] at hx
theorem bloS_two {b c : UInt8} {l : List UInt8} {x y : Nat} (h : b ≠ 39) (h1 : halfS b = some x) (h2 : halfS c = some y) : bloS (b :: c :: l) = more [UInt8.ofNat (16 * x + y)] 2 (bloS l) := by
  have hb : (b == 39) = false := by simpa using h
  simp only [bloS, hb, h1, h2]
  cases bloS l <;> simp [more]
theorem pairE {x y : List UInt8} {n m : Int} (h1 : x = y) (h2 : n = m) : AV.tup [.str x, .int .i64 n] = .tup [.str y, .int .i64 m] := by rw [h1, h2]
theorem byte39 {b : UInt8} (h : (b.toNat : Int) = 39) : b = 39 := by
  apply UInt8.toNat_inj.1
  show b.toNat = 39
  omega
theorem not39 {b : UInt8} (h : ¬ (b.toNat : Int) = 39) : b ≠ 39 := by rintro rfl; exact h rfl
theorem join_str (o u : List UInt8) {g : Nat → AV} (hg : ∀ j, j < u.length → g j = strF u j) : ∀ j, j < o.length + u.length → joinF o.length (strF o) g j = strF (o ++ u) j := fun j hj => by
  have := join_txt (n := o.length) (f := strF o) u (fun j hj => isByte_str o j hj) j hj
  rw [txtA_str] at this
  rw [← this]
  by_cases h : j < o.length
  · rw [joinF_lo h, joinF_lo h]
  · rw [joinF_hi (by omega), joinF_hi (by omega), hg _ (by omega)]
theorem more_none {o : List UInt8} {k : Nat} : more o k none = none := rfl
theorem pc_blob (s : List UInt8) (hn : s.length ≤ 65536) : PC Tryz.prog GV 141 [.str s] (pairR (bloS (s.drop 2)) 2) := by
  refine pc_fin EW4_ok mixed (show Tryz.prog.funcs[141]? = some Tryz.f141 from rfl) ?_
  refine loop_fam EW4_ok mixed (σ := Nat × List UInt8) (fun p => 2 ≤ p.1 ∧ p.1 ≤ s.length + 2 ∧ p.2.length ≤ p.1 ∧ bloS (s.drop 2) = more p.2 (p.1 - 2) (bloS (s.drop p.1))) (fun p => s.length + 2 - p.1) (2, []) ⟨Nat.le_refl _, by omega, by simp, (more_nil _).symm⟩ 0 1 [0, 2, 3] (fun p => [(4, .sl (.tok 0) p.2.length (strF p.2)), (5, .int .i64 p.1)]) [] (fun _ => []) (fun p => [(0, p.2.length, 5)]) ?_ ?_ ?_ ?_
  · rfl
  · rfl
  · refine Wk.mk' rfl rfl trivial ?_ trivial
    repeat' (refine BR.mk (fun _ => ?_) (fun _ => ?_))
    any_goals first | exact trivial | exact Wv.any _ | (refine Wv.int ?_; with_reducible rfl) | (refine Wv.str ?_; with_reducible rfl) | (refine Wv.bool ?_; with_reducible rfl) | refine Wv.int ?_ | refine Wv.str ?_ | refine Wv.bool ?_ | exact Wv.same rfl
    · exact Wv.sl rfl (fun i hi => absurd hi (Nat.not_lt_zero i)) ⟨Nat.le_refl _, _, rfl⟩
    · rfl
  · rintro ⟨i, o⟩ ⟨h2, hi, ho, hf⟩
    have w1 : IntKind.i64.wrap ((i : Int) + 1) = ((i + 1 : Nat) : Int) := (wrap_id (by unfold i64; simp only at hi; omega)).trans (by omega)
    have w2 : IntKind.i64.wrap ((i : Int) + 2) = ((i + 2 : Nat) : Int) := (wrap_id (by unfold i64; simp only at hi; omega)).trans (by omega)
    repeat' (refine BR.mk (fun h => ?_) (fun h => ?_) <;> try contradiction)
    all_goals simp only [Int.toNat_natCast, w1, w2, decide_eq_true_eq, decide_eq_false_iff_not, beq_iff_eq, beq_eq_false_iff_ne, ne_eq] at *
    all_goals try exact ⟨by omega, by omega⟩
    all_goals try exact fun _ _ => trivial
    all_goals try exact ⟨rfl, by decide, rfl, by omega, by omega, fun _ _ => rfl, all1 rfl, all1 rfl⟩
    all_goals try decide
    · have e : s.drop i = 39 :: s.drop (i + 1) := by rw [drop_at (by omega), byte39 h]
      have e2 : bloS (s.drop 2) = some (o, 1 + (i - 2)) := by rw [hf, bloS_quote e]; simp [more]
      refine Fini.mk (pairE ?_ ?_)
      · rw [e2]; exact txtA_str o
      · rw [e2, wrap_id (by unfold i64; omega)]; simp only; omega
    · have e : s.drop i = [s.getD i 0] := by rw [drop_at (by omega), List.drop_eq_nil_of_le (by omega)]
      have e2 : bloS (s.drop 2) = none := by rw [hf, e, bloS_one (not39 (by assumption))]; rfl
      refine Fini.mk (pairE ?_ ?_) <;> rw [e2]
    · have e : s.drop i = s.getD i 0 :: s.getD (i + 1) 0 :: s.drop (i + 2) := by rw [drop_at (by omega), drop_at (by omega)]
      have h1 : (!halfK ((s.getD i 0).toNat : Int)) = true := by assumption
      rw [(half_is _).1] at h1
      have e2 : bloS (s.drop 2) = none := by rw [hf, e, bloS_no (not39 (by assumption)) (.inl (by simpa using h1))]; rfl
      refine Fini.mk (pairE ?_ ?_) <;> rw [e2]
    · have e : s.drop i = s.getD i 0 :: s.getD (i + 1) 0 :: s.drop (i + 2) := by rw [drop_at (by omega), drop_at (by omega)]
      have h1 : (!halfK ((s.getD (i + 1) 0).toNat : Int)) = true := h
      rw [(half_is _).1] at h1
      have e2 : bloS (s.drop 2) = none := by rw [hf, e, bloS_no (not39 (by assumption)) (.inr (by simpa using h1))]; rfl
      refine Fini.mk (pairE ?_ ?_) <;> rw [e2]
    · have e : s.drop i = s.getD i 0 :: s.getD (i + 1) 0 :: s.drop (i + 2) := by rw [drop_at (by omega), drop_at (by omega)]
      have h1 : (!halfK ((s.getD i 0).toNat : Int)) = false := by assumption
      have h2 : (!halfK ((s.getD (i + 1) 0).toNat : Int)) = false := h
      simp only [Bool.not_eq_false'] at h1 h2
      have a1 := (half_is (s.getD i 0)).2.1 h1
      have a2 := (half_is (s.getD (i + 1) 0)).2.1 h2
      have l1 := (half_is (s.getD i 0)).2.2
      have l2 := (half_is (s.getD (i + 1) 0)).2.2
      rw [(half_is _).1] at h1 h2
      obtain ⟨x, hx⟩ := Option.isSome_iff_exists.1 h1
      obtain ⟨y, hy⟩ := Option.isSome_iff_exists.1 h2
      rw [hx] at a1 l1
      rw [hy] at a2 l2
      simp only [Option.getD_some] at a1 a2 l1 l2
      refine Again.fam (i + 2, o ++ [UInt8.ofNat (16 * x + y)]) ⟨by omega, by omega, by simp; omega, ?_⟩ (by simp only; omega) rfl rfl rfl rfl ⟨fun _ => congrArg (fun n => some (n, _)) (by simp), fun _ => trivial⟩ ?_ trivial
      · rw [hf, e, bloS_two (not39 (by assumption)) hx hy, more_more]
        simp only
        congr 1
        omega
      · repeat' (refine BR.mk (fun _ => ?_) (fun _ => ?_))
        any_goals first | exact trivial | exact Wv.any _ | (refine Wv.int ?_; with_reducible rfl) | (refine Wv.str ?_; with_reducible rfl) | (refine Wv.bool ?_; with_reducible rfl) | refine Wv.int ?_ | refine Wv.str ?_ | refine Wv.bool ?_ | exact Wv.same rfl
        · refine Wv.sl (by simp) (fun j hj => ?_) ⟨rfl, (show (0 : Nat) < min 1 1 from by decide)⟩
          refine join_str o [UInt8.ofNat (16 * x + y)] (all1 ?_) j (by simpa using hj)
          refine congrArg (AV.int .u8) ?_
          rw [a1, a2, byte_or _ _ (by omega) (by omega)]
          have : (UInt8.ofNat (16 * x + y)).toNat = 16 * x + y := by simp [UInt8.toNat_ofNat]; omega
          simp only [List.getD_cons_zero]
          omega
        · rw [wrap_id (by unfold i64; omega)]; simp
    · have e2 : bloS (s.drop 2) = none := by rw [hf, bloS_end (by simp; omega)]; rfl
      refine Fini.mk (pairE ?_ ?_) <;> rw [e2]
def h_blob : List AV → CR
  | [.str s] => .need (s.length ≤ 65536) (pairR (bloS (s.drop 2)) 2)
  | _ => .no
theorem h_blob_ok (xs : List AV) : CRok Tryz.prog GV 141 xs (h_blob xs) := by
  unfold h_blob
  split
  · rename_i s
    exact fun hn => pc_blob s hn
  · trivial
def EW5 : Env := EW4.add 141 h_blob
theorem EW5_ok : EnvOk Tryz.prog EW5 := Env.add_ok EW4_ok (by kernel_rfl) h_blob_ok
end Go.Proofs.YtejepcnoflahkaaGreatDoor
