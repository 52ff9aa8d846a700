/- hex: bytes as digits: the walk. WRITTEN BY A SMALL PROGRAM of this session (laws.py). -/
import Derived.Test.YtejepcnoflahkaaGreatDoorVRunEnv
import Derived.Test.YtejepcnoflahkaaGreatDoorVWalk4
namespace Go.Proofs.YtejepcnoflahkaaGreatDoor
open Go Go.Ab
set_option linter.unusedVariables false
set_option linter.unusedSimpArgs false
set_option maxRecDepth 100000
set_option maxHeartbeats 8000000

def digsL : List UInt8 := [48, 49, 50, 51, 52, 53, 54, 55, 56, 57, 65, 66, 67, 68, 69, 70]
def hexS (s : List UInt8) : List UInt8 := s.flatMap fun b => [digsL.getD (b.toNat / 16) 0, digsL.getD (b.toNat % 16) 0]
def hexF (s : List UInt8) (j : Nat) : AV := .int .u8 ((hexS s).getD j 0).toNat
def hexB (s : List UInt8) : Nat → List (Nat × Blk)
  | 0 => [(0, .tcells 96 [.nilp, .sl .nil 0 fun _ => .any])]
  | j + 1 => [(0, .tcells 96 [.ptr 0 0, .hs 1 0 (2 * (j + 1)) 1 none]), (1, .arr 5 1 (2 * (j + 1)) (hexF s))]
theorem hi_all : ∀ n : Fin 256, ((n.val : Nat) : Int).fdiv (2 ^ min (Int.toNat 4) IntKind.u8.bits) = ((n.val / 16 : Nat) : Int) := by decide +kernel
theorem lo_all : ∀ n : Fin 256, IntKind.u8.wrap ↑(BitVec.ofInt IntKind.u8.bits ((n.val : Nat) : Int) &&& BitVec.ofInt IntKind.u8.bits 15).toNat = ((n.val % 16 : Nat) : Int) := by decide +kernel
theorem hi_is (b : UInt8) : ((b.toNat : Nat) : Int).fdiv (2 ^ min (Int.toNat 4) IntKind.u8.bits) = ((b.toNat / 16 : Nat) : Int) := hi_all ⟨b.toNat, b.toNat_lt⟩
theorem lo_is (b : UInt8) : IntKind.u8.wrap ↑(BitVec.ofInt IntKind.u8.bits ((b.toNat : Nat) : Int) &&& BitVec.ofInt IntKind.u8.bits 15).toNat = ((b.toNat % 16 : Nat) : Int) := lo_all ⟨b.toNat, b.toNat_lt⟩
theorem hi_rng (b : UInt8) : 0 ≤ ((b.toNat : Nat) : Int).fdiv (2 ^ min (Int.toNat 4) IntKind.u8.bits) ∧ ((b.toNat : Nat) : Int).fdiv (2 ^ min (Int.toNat 4) IntKind.u8.bits) < (16 : Nat) := by
  rw [hi_is]
  have := b.toNat_lt
  omega
theorem lo_rng (b : UInt8) : 0 ≤ IntKind.u8.wrap ↑(BitVec.ofInt IntKind.u8.bits ((b.toNat : Nat) : Int) &&& BitVec.ofInt IntKind.u8.bits 15).toNat ∧ IntKind.u8.wrap ↑(BitVec.ofInt IntKind.u8.bits ((b.toNat : Nat) : Int) &&& BitVec.ofInt IntKind.u8.bits 15).toNat < (16 : Nat) := by
  rw [lo_is]
  omega
theorem isB (x : UInt8) : isByte (.int .u8 (x.toNat : Int)) := by
  have := x.toNat_lt
  exact ⟨by omega, by omega⟩
theorem ren_isB {ρ θ : Nat → Nat} {x : AV} (h : isByte x) : isByte (ren ρ θ x) := by rw [ren_bytes h]; exact h
theorem txtA_list (l : List UInt8) : txtA l.length (fun j => .int .u8 (l.getD j 0).toNat) = l := by
  unfold txtA
  refine List.ext_getElem (by simp) fun j h1 h2 => ?_
  simp [byteOfA, h2]
theorem hexS_cons (b : UInt8) (s : List UInt8) : hexS (b :: s) = digsL.getD (b.toNat / 16) 0 :: digsL.getD (b.toNat % 16) 0 :: hexS s := rfl
theorem hexS_len : ∀ s : List UInt8, (hexS s).length = 2 * s.length
  | [] => rfl
  | b :: s => by rw [hexS_cons]; simp only [List.length_cons, hexS_len s]; omega
theorem hexS_get : ∀ (s : List UInt8) (i : Nat), i < s.length → (hexS s).getD (2 * i) 0 = digsL.getD ((s.getD i 0).toNat / 16) 0 ∧ (hexS s).getD (2 * i + 1) 0 = digsL.getD ((s.getD i 0).toNat % 16) 0
  | [], i, h => by simp at h
  | b :: s, 0, h => by rw [hexS_cons]; exact ⟨rfl, rfl⟩
  | b :: s, i + 1, h => by
    have := hexS_get s i (by simpa using h)
    rw [hexS_cons, show 2 * (i + 1) = 2 * i + 2 from by omega]
    exact this
theorem two_more (s : List UInt8) (i : Nat) (ρ θ ρ' θ' : Nat → Nat) (x y : Int) (hx : x = ((hexS s).getD (2 * i) 0).toNat) (hy : y = ((hexS s).getD (2 * i + 1) 0).toNat) (j : Nat) (hj : j < 2 * i + 2) : ren ρ θ (joinF (2 * i + 1) (fun j => ren ρ' θ' (joinF (2 * i) (hexF s) (oneF x) j)) (oneF y) j) = hexF s j := by
  have hb : ∀ j, j < 2 * i + 1 → isByte (joinF (2 * i) (hexF s) (oneF x) j) := fun j hj => isByte_join (m := 1) (fun j _ => isB _) (fun j _ => by subst hx; exact isB _) j hj
  refine (ren_bytes (isByte_join (n := 2 * i + 1) (m := 1) (fun j hj => ren_isB (hb j hj)) (fun j _ => by subst hy; exact isB _) j hj)).trans ?_
  by_cases h : j < 2 * i + 1
  · rw [joinF_lo h]
    refine (ren_bytes (hb j h)).trans ?_
    by_cases h' : j < 2 * i
    · rw [joinF_lo h']
    · rw [joinF_hi (by omega)]
      obtain rfl : j = 2 * i := by omega
      subst hx
      rfl
  · rw [joinF_hi (by omega)]
    obtain rfl : j = 2 * i + 1 := by omega
    subst hy
    rfl
theorem wv_byte' {mv : List (Nat × Nat)} {s s' : St} {x y : AV} (h : isByte y) (e : x = y) : WvL mv s s' x.cells y.cells := wv_byte (by rw [e]; exact h) e
theorem pc_hex (s : List UInt8) (hn : s.length ≤ 65536) : PC Tryz.prog GV 88 [.str s] (.str (hexS s)) := by
  refine pc_fin ER_ok mixed (show Tryz.prog.funcs[88]? = some Tryz.f88 from rfl) ?_
  refine loop_famM ER_ok mixed (σ := Nat) (fun i => i ≤ s.length) (fun i => s.length - i) 0 (Nat.zero_le _) 1 2 0 [] [0, 2, 3, 7, 8] (fun i => [(9, .int .i64 i)]) [] (fun i => hexB s i) (fun _ => []) ?_ ?_ ?_ ?_ ?_ ?_
  · rfl
  · rfl
  · rfl
  · rfl
  · refine Wk.mk' rfl rfl trivial ?_ (BR.mk (fun _ => ⟨Nat.le_of_ble_eq_true rfl, .inl ⟨rfl, _, rfl, rfl, .cons (.same rfl) (.cons (.same rfl) .nil)⟩⟩) (fun _ => trivial))
    repeat' (refine BR.mk (fun _ => ?_) (fun _ => ?_))
    any_goals first | exact trivial | exact Wv.any _ | (refine Wv.int ?_; with_reducible rfl) | (refine Wv.str ?_; with_reducible rfl) | (refine Wv.bool ?_; with_reducible rfl) | refine Wv.int ?_ | refine Wv.str ?_ | refine Wv.bool ?_ | exact Wv.same rfl
    rfl
  · rintro i hi
    cases i with
    | zero =>
      repeat' (refine BR.mk (fun h => ?_) (fun h => ?_) <;> try contradiction)
      all_goals try exact hi_rng _
      all_goals try exact lo_rng _
      all_goals try exact And.intro rfl (isB _)
      all_goals try exact And.intro rfl (And.intro (by decide) (And.intro (isB _) (fun j hj => isB _)))
      all_goals try (rename_i h1; exact ⟨by simp only [decide_eq_true_eq] at h1; omega, rfl, rfl⟩)
      all_goals try decide
      · rename_i h1 _ _ _ _ _
        simp only [decide_eq_true_eq] at h1
        refine Again.famM 1 [(1, 3)] (by show 1 ≤ s.length; omega) (by show s.length - 1 < s.length - 0; omega) rfl rfl rfl rfl trivial ?_ ?_
        · skip
          repeat' (refine BR.mk (fun _ => ?_) (fun _ => ?_))
          any_goals first | exact trivial | exact Wv.any _ | (refine Wv.int ?_; with_reducible rfl) | (refine Wv.str ?_; with_reducible rfl) | (refine Wv.bool ?_; with_reducible rfl) | refine Wv.int ?_ | refine Wv.str ?_ | refine Wv.bool ?_ | exact Wv.same rfl
          all_goals rfl
        · refine BR.mk (fun _ => ?_) (fun _ => BR.mk (fun _ => ?_) fun _ => trivial)
          · exact ⟨Nat.le_of_ble_eq_true rfl, .inl ⟨rfl, _, rfl, rfl, .cons (.same rfl) (.cons (.moved rfl rfl rfl rfl) .nil)⟩⟩
          · refine ⟨Nat.le_of_ble_eq_true rfl, .inl ⟨rfl, _, rfl, rfl, rfl, Nat.le_refl _, fun j hj => ?_⟩⟩
            have hg := hexS_get s 0 (by omega)
            have hj' : j < 2 * (0 + 1) := hj
            have hj2 : j = 0 ∨ j = 1 := by omega
            rcases hj2 with rfl | rfl
            · refine wv_byte (isB _) ?_
              exact (show AV.int .u8 ((digsL.getD (((s.getD 0 0).toNat : Int).fdiv (2 ^ min (Int.toNat 4) IntKind.u8.bits)).toNat 0).toNat : Int) = AV.int .u8 (((hexS s).getD (2 * 0) 0).toNat : Int) from by rw [hg.1, hi_is]; rfl)
            · refine wv_byte (isB _) ?_
              exact (show AV.int .u8 ((digsL.getD (IntKind.u8.wrap ↑(BitVec.ofInt IntKind.u8.bits ((s.getD 0 0).toNat : Int) &&& BitVec.ofInt IntKind.u8.bits 15).toNat).toNat 0).toNat : Int) = AV.int .u8 (((hexS s).getD (2 * 0 + 1) 0).toNat : Int) from by rw [hg.2, lo_is]; rfl)
      · simp only [decide_eq_false_iff_not] at h
        refine Fini.mk ?_
        have : s = [] := List.eq_nil_of_length_eq_zero (by omega)
        subst this
        rfl
    | succ i =>
      repeat' (refine BR.mk (fun h => ?_) (fun h => ?_) <;> try contradiction)
      all_goals try exact hi_rng _
      all_goals try exact lo_rng _
      all_goals try (rename_i h1; exact ⟨by simp only [decide_eq_true_eq] at h1; omega, rfl, rfl⟩)
      all_goals try decide
      · exact And.intro rfl (And.intro (by omega) (And.intro (isB _) (fun j hj => isB _)))
      · exact And.intro rfl (And.intro (by omega) (And.intro (isB _) (fun j hj => ren_isB (isByte_join (fun j _ => isB _) (fun j _ => isB _) j hj))))
      · rename_i h1 _ _ _ _ _
        simp only [decide_eq_true_eq] at h1
        refine Again.famM (i + 2) [(1, 3)] (by show i + 2 ≤ s.length; omega) (by show s.length - (i + 2) < s.length - (i + 1); omega) rfl rfl rfl rfl trivial ?_ ?_
        · skip
          repeat' (refine BR.mk (fun _ => ?_) (fun _ => ?_))
          any_goals first | exact trivial | exact Wv.any _ | (refine Wv.int ?_; with_reducible rfl) | (refine Wv.str ?_; with_reducible rfl) | (refine Wv.bool ?_; with_reducible rfl) | refine Wv.int ?_ | refine Wv.str ?_ | refine Wv.bool ?_ | exact Wv.same rfl
          all_goals (rw [wrap_id (by unfold i64; omega)]; rfl)
        · refine BR.mk (fun _ => ?_) (fun _ => BR.mk (fun _ => ?_) fun _ => trivial)
          · exact ⟨Nat.le_of_ble_eq_true rfl, .inl ⟨rfl, _, rfl, rfl, .cons (.same rfl) (.cons (.moved rfl rfl rfl rfl) .nil)⟩⟩
          · refine ⟨Nat.le_of_ble_eq_true rfl, .inl ⟨rfl, _, rfl, rfl, rfl, Nat.le_refl _, fun j hj => ?_⟩⟩
            have hg := hexS_get s (i + 1) (by omega)
            exact wv_byte' (isB _) (two_more s (i + 1) _ _ _ _ _ _ (by rw [hg.1, hi_is]; rfl) (by rw [hg.2, lo_is]; rfl) j hj)
      · exact ⟨rfl, rfl, rfl, rfl, Nat.le_refl _, by omega, fun j hj => isB _⟩
      · rename_i h1
        simp only [decide_eq_false_iff_not] at h1
        refine Fini.mk (congrArg AV.str ?_)
        have hl : i + 1 = s.length := by omega
        rw [hl, ← hexS_len]
        exact txtA_list _

end Go.Proofs.YtejepcnoflahkaaGreatDoor
