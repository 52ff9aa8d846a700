/- strings.Builder: WriteByte, WriteString. -/
import Derived.Test.YtejepcnoflahkaaGreatDoorBld
import Derived.Test.YtejepcnoflahkaaGreatDoorAbSmall
namespace Go.Proofs.YtejepcnoflahkaaGreatDoor
open Go Go.Ab Go.RowKit
set_option linter.unusedVariables false
set_option linter.unusedSimpArgs false
set_option maxRecDepth 100000
set_option maxHeartbeats 4000000

section
variable (G : World → Prop) (hG : ∀ w w', G w → RowKit.Below w.heap.size w w' → G w')
def EB0 : Env := { Env.base Γ G with gp := true, bt := fun T => Nat.beq T 96 }
def EB : Env := (EB0 G).addH 134 h_cc
include hG in
theorem EB_ok : EnvOk Tryz.prog (EB G) := by
  have h0 : EnvOk Tryz.prog (EB0 G) := ⟨Γ_ok, hG, fun _ _ => trivial, fun _ _ _ h => by cases h⟩
  exact Env.addH_ok h0 (by kernel_rfl) h_cc_ok
def mNil (f : Nat → AV) : List Blk := [.tcells 96 [.nilp, .sl .nil 0 f]]
def mRow (n : Nat) (f : Nat → AV) : List Blk := [.tcells 96 [.ptr 0 0, .hs 1 0 n 1 none], .arr 5 1 n f]
/-- what is left: a row that is longer -/
def mNil' (n : Nat) (f : Nat → AV) : St := St.mk' 0 2 0 [] [(0, .tcells 96 [.ptr 0 0, .hs 1 0 n 1 none]), (1, .arr 5 1 n f)] []
def mRow' (n : Nat) (f : Nat → AV) : St := St.mk' 0 3 0 [] [(0, .tcells 96 [.ptr 0 0, .hs 2 0 n 1 none]), (2, .arr 5 1 n f)] []
theorem all1 {p : Nat → Prop} (h : p 0) : ∀ i, i < 1 → p i := fun i hi => by
  have : i = 0 := Nat.lt_one_iff.1 hi
  rw [this]; exact h
theorem joinF_lo {n j : Nat} {f g : Nat → AV} (h : j < n) : joinF n f g j = f j := by
  simp [joinF, show Nat.blt j n = true from by simpa [Nat.blt_eq] using h]
theorem joinF_hi {n j : Nat} {f g : Nat → AV} (h : n ≤ j) : joinF n f g j = g (j - n) := by
  have : Nat.blt j n = false := by
    cases hb : Nat.blt j n with
    | false => rfl
    | true => exact absurd (by simpa [Nat.blt_eq] using hb) (Nat.not_lt.2 h)
  simp [joinF, this]
include hG in
theorem hc_wb_nil (f : Nat → AV) (c : Int) : HC Tryz.prog G 108 [.ptr 0 0, .int .u8 c] (St.small (mNil f) []) .nili (mNil' 1 fun _ => .int .u8 c) := by
  refine hc_of (EB_ok G hG) Tryz.checked.mixed (show Tryz.prog.funcs[108]? = some Tryz.f108 from rfl) (Nat.le_of_ble_eq_true rfl) (Nat.le_of_ble_eq_true rfl) ?_
  refine BR.mk (fun h => ?_) (fun h => ?_)
  · exact ⟨rfl, by decide, rfl, by decide, by decide, all1 rfl, all1 rfl⟩
  · refine Go.Ab.Left.mk (Nat.le_refl _) ⟨[], fun _ _ => rfl, Wv.same rfl, Wk.mk' rfl rfl trivial trivial ?_⟩
    refine BR.mk (fun _ => ?_) (fun _ => BR.mk (fun _ => ?_) fun _ => trivial)
    · exact ⟨Nat.le_of_ble_eq_true rfl, .inl ⟨rfl, _, rfl, rfl, .cons (.same rfl) (.cons (.same rfl) .nil)⟩⟩
    · exact ⟨Nat.le_of_ble_eq_true rfl, .inl ⟨rfl, _, rfl, rfl, rfl, Nat.le_refl _, all1 (.cons (.same rfl) .nil)⟩⟩
theorem wv_byte {mv : List (Nat × Nat)} {s s' : St} {x y : AV} (h : isByte x) (e : x = y) : WvL mv s s' x.cells y.cells := by
  subst e
  rw [isByte_int h]
  exact .cons (.same rfl) .nil
theorem isByte_join {n m : Nat} {f g : Nat → AV} (hf : ∀ j, j < n → isByte (f j)) (hg : ∀ j, j < m → isByte (g j)) : ∀ j, j < n + m → isByte (joinF n f g j) := by
  intro j hj
  by_cases h : j < n
  · rw [joinF_lo h]; exact hf j h
  · rw [joinF_hi (Nat.le_of_not_lt h)]; exact hg _ (by omega)
theorem isByte_str (b : List UInt8) : ∀ j, j < b.length → isByte (strF b j) := fun j _ => by
  have := (b.getD j 0).toNat_lt
  exact ⟨by omega, by omega⟩
def oneF (c : Int) : Nat → AV := fun _ => .int .u8 c
include hG in
theorem hc_wb_row (n : Nat) (f : Nat → AV) (c : Int) (hn : n + 1 ≤ 140737488355328) (hf : ∀ j, j < n → isByte (f j)) (hc : isByte (.int .u8 c)) : HC Tryz.prog G 108 [.ptr 0 0, .int .u8 c] (St.small (mRow n f) []) .nili (mRow' (n + 1) (joinF n f (oneF c))) := by
  refine hc_of (EB_ok G hG) Tryz.checked.mixed (show Tryz.prog.funcs[108]? = some Tryz.f108 from rfl) (Nat.le_of_ble_eq_true rfl) (Nat.le_of_ble_eq_true rfl) ?_
  refine BR.mk (fun h => ?_) (fun h => ?_)
  · exact ⟨rfl, rfl, rfl, rfl, Nat.le_refl _, by decide, rfl, by simpa using hn, hn, all1 rfl, all1 rfl⟩
  · refine Go.Ab.Left.mk (Nat.le_refl _) ⟨[], fun _ _ => rfl, Wv.same rfl, Wk.mk' rfl rfl trivial trivial ?_⟩
    refine BR.mk (fun _ => ?_) (fun _ => BR.mk (fun _ => ?_) fun _ => trivial)
    · exact ⟨Nat.le_of_ble_eq_true rfl, .inl ⟨rfl, _, rfl, rfl, .cons (.same rfl) (.cons (.same rfl) .nil)⟩⟩
    · refine ⟨Nat.le_of_ble_eq_true rfl, .inl ⟨rfl, _, rfl, rfl, rfl, Nat.le_refl _, fun j hj => ?_⟩⟩
      refine wv_byte (isByte_join hf (g := elemA false 1 [AV.int .u8 c]) (all1 hc) j hj) ?_
      by_cases h : j < n
      · rw [joinF_lo h, joinF_lo h]
      · obtain rfl : j = n := by omega
        rw [joinF_hi (Nat.le_refl _), joinF_hi (Nat.le_refl _), Nat.sub_self]
        rfl
include hG in
theorem hc_ws_nil (f : Nat → AV) (b : List UInt8) (hn : b.length ≤ 140737488355328) : HC Tryz.prog G 76 [.ptr 0 0, .str b] (St.small (mNil f) []) (.tup [.int .i64 b.length, .nili]) (mNil' b.length (strF b)) := by
  refine hc_of (EB_ok G hG) Tryz.checked.mixed (show Tryz.prog.funcs[76]? = some Tryz.f76 from rfl) (Nat.le_of_ble_eq_true rfl) (Nat.le_of_ble_eq_true rfl) ?_
  refine BR.mk (fun h => ?_) (fun h => ?_)
  · exact ⟨rfl, rfl, rfl, by simpa using hn, hn⟩
  · refine Go.Ab.Left.mk (Nat.le_refl _) ⟨[], fun _ _ => rfl, Wv.same rfl, Wk.mk' rfl rfl trivial trivial ?_⟩
    refine BR.mk (fun _ => ?_) (fun _ => BR.mk (fun _ => ?_) fun _ => trivial)
    · exact ⟨Nat.le_of_ble_eq_true rfl, .inl ⟨rfl, _, rfl, rfl, .cons (.same rfl) (.cons (.same rfl) .nil)⟩⟩
    · exact ⟨Nat.le_of_ble_eq_true rfl, .inl ⟨rfl, _, rfl, rfl, rfl, Nat.le_refl _, fun j hj => wv_byte (isByte_str b j hj) rfl⟩⟩
include hG in
theorem hc_ws_row (n : Nat) (f : Nat → AV) (b : List UInt8) (hn : n + b.length ≤ 140737488355328) (hf : ∀ j, j < n → isByte (f j)) : HC Tryz.prog G 76 [.ptr 0 0, .str b] (St.small (mRow n f) []) (.tup [.int .i64 b.length, .nili]) (mRow' (n + b.length) (joinF n f (strF b))) := by
  refine hc_of (EB_ok G hG) Tryz.checked.mixed (show Tryz.prog.funcs[76]? = some Tryz.f76 from rfl) (Nat.le_of_ble_eq_true rfl) (Nat.le_of_ble_eq_true rfl) ?_
  refine BR.mk (fun h => ?_) (fun h => ?_)
  · exact ⟨rfl, rfl, rfl, rfl, rfl, Nat.le_refl _, rfl, by simpa using hn, hn⟩
  · refine Go.Ab.Left.mk (Nat.le_refl _) ⟨[], fun _ _ => rfl, Wv.same rfl, Wk.mk' rfl rfl trivial trivial ?_⟩
    refine BR.mk (fun _ => ?_) (fun _ => BR.mk (fun _ => ?_) fun _ => trivial)
    · exact ⟨Nat.le_of_ble_eq_true rfl, .inl ⟨rfl, _, rfl, rfl, .cons (.same rfl) (.cons (.same rfl) .nil)⟩⟩
    · exact ⟨Nat.le_of_ble_eq_true rfl, .inl ⟨rfl, _, rfl, rfl, rfl, Nat.le_refl _, fun j hj => wv_byte (isByte_join hf (isByte_str b) j hj) rfl⟩⟩

/-! ### Upon any memory -/
def h_wb : List AV → St → Res
  | [.ptr i 0, .int .u8 c], m => match m.h i with
    | some (.tcells T [a, b]) => match Nat.beq T 96 with
      | true => match a, b with
        | .nilp, .sl .nil n f => .need (n = 0 ∧ isByte (.int .u8 c)) .nili (m.within (St.small (mNil f) []) (mNil' 1 (oneF c)) [i] [])
        | .ptr i2 0, .hs k 0 n 1 none => match m.h k with
          | some (.arr U 1 n' f) => match Nat.beq i2 i, Nat.beq i k, Nat.beq U 5 with
            | true, false, true => .need (n' = n ∧ n + 1 ≤ 140737488355328 ∧ isByte (.int .u8 c) ∧ ∀ j, j < n → isByte (f j)) .nili (m.within (St.small (mRow n f) []) (mRow' (n + 1) (joinF n f (oneF c))) [i, k] [])
            | _, _, _ => .fail
          | _ => .fail
        | _, _ => .fail
      | false => .fail
    | _ => .fail
  | _, _ => .fail
def h_ws : List AV → St → Res
  | [.ptr i 0, .str s], m => match m.h i with
    | some (.tcells T [a, b]) => match Nat.beq T 96 with
      | true => match a, b with
        | .nilp, .sl .nil n f => .need (n = 0 ∧ s.length ≤ 140737488355328) (.tup [.int .i64 s.length, .nili]) (m.within (St.small (mNil f) []) (mNil' s.length (strF s)) [i] [])
        | .ptr i2 0, .hs k 0 n 1 none => match m.h k with
          | some (.arr U 1 n' f) => match Nat.beq i2 i, Nat.beq i k, Nat.beq U 5 with
            | true, false, true => .need (n' = n ∧ n + s.length ≤ 140737488355328 ∧ ∀ j, j < n → isByte (f j)) (.tup [.int .i64 s.length, .nili]) (m.within (St.small (mRow n f) []) (mRow' (n + s.length) (joinF n f (strF s))) [i, k] [])
            | _, _, _ => .fail
          | _ => .fail
        | _, _ => .fail
      | false => .fail
    | _ => .fail
  | _, _ => .fail
theorem under_bytes {n : Nat} {f : Nat → AV} (hf : ∀ j, j < n → isByte (f j)) : ∀ j, j < n → under 2 0 (f j) = true := fun j hj => by
  rw [isByte_int (hf j hj)]; rfl
theorem ren_bytes {ρ θ : Nat → Nat} {x : AV} (h : isByte x) : ren ρ θ x = x := by
  rw [isByte_int h]; rfl
include hG in
theorem h_wb_ok (xs : List AV) (m : St) : HRok Tryz.prog G 108 xs m (h_wb xs m) := by
  unfold h_wb
  split
  · rename_i i c
    split
    · rename_i T a b hi
      split
      · rename_i hT
        have := Nat.eq_of_beq_eq_true hT
        subst this
        split
        · rename_i n f
          rintro ⟨rfl, hc⟩
          exact hc_small (hc_wb_nil G hG f c) [i] [] (Nat.le_of_ble_eq_true rfl) (Nat.le_refl _) rfl (by simp) (by simp) ⟨⟨rfl, _, hi, leB.refl _⟩, trivial⟩ trivial
        · rename_i i2 k n
          split
          · rename_i U n' f hk
            split
            · rename_i e1 e2 e3
              have e1 := Nat.eq_of_beq_eq_true e1
              have e2 := Nat.ne_of_beq_eq_false e2
              have e3 := Nat.eq_of_beq_eq_true e3
              subst e1; subst e3
              rintro ⟨rfl, hn, hc, hf⟩
              exact hc_small (hc_wb_row G hG n' f c hn hf hc) [i2, k] [] (Nat.le_of_ble_eq_true rfl) (Nat.le_refl _) rfl (by simpa using e2) (by simp)
                ⟨⟨rfl, _, hi, leB.refl _⟩, ⟨under_bytes hf, _, hk, leB.arr (Nat.le_refl _) fun j hj => (ren_bytes (hf j hj)).symm⟩, trivial⟩ trivial
            · trivial
          · trivial
        · trivial
      · trivial
    · trivial
  · trivial
include hG in
theorem h_ws_ok (xs : List AV) (m : St) : HRok Tryz.prog G 76 xs m (h_ws xs m) := by
  unfold h_ws
  split
  · rename_i i b
    split
    · rename_i T a b' hi
      split
      · rename_i hT
        have := Nat.eq_of_beq_eq_true hT
        subst this
        split
        · rename_i n f
          rintro ⟨rfl, hc⟩
          exact hc_small (hc_ws_nil G hG f b hc) [i] [] (Nat.le_of_ble_eq_true rfl) (Nat.le_refl _) rfl (by simp) (by simp) ⟨⟨rfl, _, hi, leB.refl _⟩, trivial⟩ trivial
        · rename_i i2 k n
          split
          · rename_i U n' f hk
            split
            · rename_i e1 e2 e3
              have e1 := Nat.eq_of_beq_eq_true e1
              have e2 := Nat.ne_of_beq_eq_false e2
              have e3 := Nat.eq_of_beq_eq_true e3
              subst e1; subst e3
              rintro ⟨rfl, hn, hf⟩
              exact hc_small (hc_ws_row G hG n' f b hn hf) [i2, k] [] (Nat.le_of_ble_eq_true rfl) (Nat.le_refl _) rfl (by simpa using e2) (by simp)
                ⟨⟨rfl, _, hi, leB.refl _⟩, ⟨under_bytes hf, _, hk, leB.arr (Nat.le_refl _) fun j hj => (ren_bytes (hf j hj)).symm⟩, trivial⟩ trivial
            · trivial
          · trivial
        · trivial
      · trivial
    · trivial
  · trivial
end
end Go.Proofs.YtejepcnoflahkaaGreatDoor
