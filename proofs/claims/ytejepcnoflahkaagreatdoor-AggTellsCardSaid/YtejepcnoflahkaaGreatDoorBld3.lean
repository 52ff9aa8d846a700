/- strings.Builder: what WriteByte, WriteString leave, told as a list of bytes. -/
import Derived.Test.YtejepcnoflahkaaGreatDoorBld2
namespace Go.Proofs.YtejepcnoflahkaaGreatDoor
open Go Go.Ab Go.RowKit
set_option linter.unusedVariables false
set_option linter.unusedSimpArgs false
set_option maxRecDepth 100000
set_option maxHeartbeats 4000000

theorem txtA_len (n : Nat) (f : Nat → AV) : (txtA n f).length = n := by simp [txtA]
theorem txtA_str (l : List UInt8) : txtA l.length (strF l) = l := by
  unfold txtA
  refine List.ext_getElem (by simp) fun j h1 h2 => ?_
  simp [byteOfA, strF, h2]
theorem txtA_eq {n : Nat} {f : Nat → AV} {l : List UInt8} (hn : n = l.length) (h : ∀ j, j < n → f j = strF l j) : txtA n f = l := by
  subst hn
  refine Eq.trans ?_ (txtA_str l)
  unfold txtA
  refine List.map_congr_left fun j hj => ?_
  rw [h j (by simpa using hj)]
theorem join_txt {n : Nat} {f : Nat → AV} (b : List UInt8) (hf : ∀ j, j < n → isByte (f j)) : ∀ j, j < n + b.length → joinF n f (strF b) j = strF (txtA n f ++ b) j := fun j hj => by
  by_cases h : j < n
  · rw [joinF_lo h, isByte_int (hf j h)]
    unfold strF
    have e : (txtA n f ++ b).getD j 0 = byteOfA (f j) := by
      rw [List.getD_eq_getElem?_getD, List.getElem?_append_left (show j < (txtA n f).length by rw [txtA_len]; exact h)]
      simp [txtA, h]
    rw [e]
  · rw [joinF_hi (by omega)]
    unfold strF
    simp [List.getD_eq_getElem?_getD, List.getElem?_append_right (show (txtA n f).length ≤ j by rw [txtA_len]; omega), txtA_len]
theorem byte_str {c : Int} (h : isByte (.int .u8 c)) : AV.int .u8 c = strF [UInt8.ofNat c.toNat] 0 := by
  have := isByte_int h
  simp only [byteOfA] at this
  simpa [strF] using this
section
variable (G : World → Prop) (hG : ∀ w w', G w → RowKit.Below w.heap.size w w' → G w')
include hG in
theorem hc_wbl_nil (f : Nat → AV) (c : Int) (hc : isByte (.int .u8 c)) : HC Tryz.prog G 108 [.ptr 0 0, .int .u8 c] (St.small (mNil f) []) .nili (mNil' 1 (strF [UInt8.ofNat c.toNat])) := by
  refine hc_of (EB_ok G hG) Tryz.checked.mixed (show Tryz.prog.funcs[108]? = some Tryz.f108 from rfl) (Nat.le_of_ble_eq_true rfl) (Nat.le_of_ble_eq_true rfl) ?_
  refine BR.mk (fun h => ?_) (fun h => ?_)
  · exact ⟨rfl, by decide, rfl, by decide, by decide, all1 rfl, all1 rfl⟩
  · refine Go.Ab.Left.mk (Nat.le_refl _) ⟨[], fun _ _ => rfl, Wv.same rfl, Wk.mk' rfl rfl trivial trivial ?_⟩
    refine BR.mk (fun _ => ?_) (fun _ => BR.mk (fun _ => ?_) fun _ => trivial)
    · exact ⟨Nat.le_of_ble_eq_true rfl, .inl ⟨rfl, _, rfl, rfl, .cons (.same rfl) (.cons (.same rfl) .nil)⟩⟩
    · exact ⟨Nat.le_of_ble_eq_true rfl, .inl ⟨rfl, _, rfl, rfl, rfl, Nat.le_refl _, all1 (wv_byte hc (byte_str hc))⟩⟩
include hG in
theorem hc_wbl_row (n : Nat) (f : Nat → AV) (c : Int) (hn : n + 1 ≤ 140737488355328) (hf : ∀ j, j < n → isByte (f j)) (hc : isByte (.int .u8 c)) : HC Tryz.prog G 108 [.ptr 0 0, .int .u8 c] (St.small (mRow n f) []) .nili (mRow' (n + 1) (strF (txtA n f ++ [UInt8.ofNat c.toNat]))) := by
  refine hc_of (EB_ok G hG) Tryz.checked.mixed (show Tryz.prog.funcs[108]? = some Tryz.f108 from rfl) (Nat.le_of_ble_eq_true rfl) (Nat.le_of_ble_eq_true rfl) ?_
  refine BR.mk (fun h => ?_) (fun h => ?_)
  · exact ⟨rfl, rfl, rfl, rfl, Nat.le_refl _, by decide, rfl, by simpa using hn, hn, all1 rfl, all1 rfl⟩
  · refine Go.Ab.Left.mk (Nat.le_refl _) ⟨[], fun _ _ => rfl, Wv.same rfl, Wk.mk' rfl rfl trivial trivial ?_⟩
    refine BR.mk (fun _ => ?_) (fun _ => BR.mk (fun _ => ?_) fun _ => trivial)
    · exact ⟨Nat.le_of_ble_eq_true rfl, .inl ⟨rfl, _, rfl, rfl, .cons (.same rfl) (.cons (.same rfl) .nil)⟩⟩
    · refine ⟨Nat.le_of_ble_eq_true rfl, .inl ⟨rfl, _, rfl, rfl, rfl, Nat.le_refl _, fun j hj => ?_⟩⟩
      refine wv_byte (isByte_join hf (g := elemA false 1 [AV.int .u8 c]) (all1 hc) j hj) ?_
      rw [← join_txt [UInt8.ofNat c.toNat] hf j hj]
      by_cases h : j < n
      · rw [joinF_lo h, joinF_lo h]
      · obtain rfl : j = n := by omega
        rw [joinF_hi (Nat.le_refl _), joinF_hi (Nat.le_refl _), Nat.sub_self]
        exact byte_str hc
include hG in
theorem hc_wsl_row (n : Nat) (f : Nat → AV) (b : List UInt8) (hn : n + b.length ≤ 140737488355328) (hf : ∀ j, j < n → isByte (f j)) : HC Tryz.prog G 76 [.ptr 0 0, .str b] (St.small (mRow n f) []) (.tup [.int .i64 b.length, .nili]) (mRow' (n + b.length) (strF (txtA n f ++ b))) := by
  refine hc_of (EB_ok G hG) Tryz.checked.mixed (show Tryz.prog.funcs[76]? = some Tryz.f76 from rfl) (Nat.le_of_ble_eq_true rfl) (Nat.le_of_ble_eq_true rfl) ?_
  refine BR.mk (fun h => ?_) (fun h => ?_)
  · exact ⟨rfl, rfl, rfl, rfl, rfl, Nat.le_refl _, rfl, by simpa using hn, hn⟩
  · refine Go.Ab.Left.mk (Nat.le_refl _) ⟨[], fun _ _ => rfl, Wv.same rfl, Wk.mk' rfl rfl trivial trivial ?_⟩
    refine BR.mk (fun _ => ?_) (fun _ => BR.mk (fun _ => ?_) fun _ => trivial)
    · exact ⟨Nat.le_of_ble_eq_true rfl, .inl ⟨rfl, _, rfl, rfl, .cons (.same rfl) (.cons (.same rfl) .nil)⟩⟩
    · exact ⟨Nat.le_of_ble_eq_true rfl, .inl ⟨rfl, _, rfl, rfl, rfl, Nat.le_refl _, fun j hj => wv_byte (isByte_join hf (isByte_str b) j hj) (join_txt b hf j hj)⟩⟩

def hl_wb : List AV → St → Res
  | [.ptr i 0, .int .u8 c], m => match m.h i with
    | some (.tcells T [a, b]) => match Nat.beq T 96 with
      | true => match a, b with
        | .nilp, .sl .nil n f => .need (n = 0 ∧ isByte (.int .u8 c)) .nili (m.within (St.small (mNil f) []) (mNil' 1 (strF [UInt8.ofNat c.toNat])) [i] [])
        | .ptr i2 0, .hs k 0 n 1 none => match m.h k with
          | some (.arr U 1 n' f) => match Nat.beq i2 i, Nat.beq i k, Nat.beq U 5 with
            | true, false, true => .need (n' = n ∧ n + 1 ≤ 140737488355328 ∧ isByte (.int .u8 c) ∧ ∀ j, j < n → isByte (f j)) .nili (m.within (St.small (mRow n f) []) (mRow' (n + 1) (strF (txtA n f ++ [UInt8.ofNat c.toNat]))) [i, k] [])
            | _, _, _ => .fail
          | _ => .fail
        | _, _ => .fail
      | false => .fail
    | _ => .fail
  | _, _ => .fail
def hl_ws : List AV → St → Res
  | [.ptr i 0, .str s], m => match m.h i with
    | some (.tcells T [a, b]) => match Nat.beq T 96 with
      | true => match a, b with
        | .nilp, .sl .nil n f => .need (n = 0 ∧ s.length ≤ 140737488355328) (.tup [.int .i64 s.length, .nili]) (m.within (St.small (mNil f) []) (mNil' s.length (strF s)) [i] [])
        | .ptr i2 0, .hs k 0 n 1 none => match m.h k with
          | some (.arr U 1 n' f) => match Nat.beq i2 i, Nat.beq i k, Nat.beq U 5 with
            | true, false, true => .need (n' = n ∧ n + s.length ≤ 140737488355328 ∧ ∀ j, j < n → isByte (f j)) (.tup [.int .i64 s.length, .nili]) (m.within (St.small (mRow n f) []) (mRow' (n + s.length) (strF (txtA n f ++ s))) [i, k] [])
            | _, _, _ => .fail
          | _ => .fail
        | _, _ => .fail
      | false => .fail
    | _ => .fail
  | _, _ => .fail
include hG in
theorem hl_wb_ok (xs : List AV) (m : St) : HRok Tryz.prog G 108 xs m (hl_wb xs m) := by
  unfold hl_wb
  split
  · rename_i i c
    split
    · rename_i T a b hi
      split
      · rename_i hT
        have := Nat.eq_of_beq_eq_true hT
        subst this
        split
        · rename_i n f
          rintro ⟨rfl, hc⟩
          exact hc_small (hc_wbl_nil G hG f c hc) [i] [] (Nat.le_of_ble_eq_true rfl) (Nat.le_refl _) rfl (by simp) (by simp) ⟨⟨rfl, _, hi, leB.refl _⟩, trivial⟩ trivial
        · rename_i i2 k n
          split
          · rename_i U n' f hk
            split
            · rename_i e1 e2 e3
              have e1 := Nat.eq_of_beq_eq_true e1
              have e2 := Nat.ne_of_beq_eq_false e2
              have e3 := Nat.eq_of_beq_eq_true e3
              subst e1; subst e3
              rintro ⟨rfl, hn, hc, hf⟩
              exact hc_small (hc_wbl_row G hG n' f c hn hf hc) [i2, k] [] (Nat.le_of_ble_eq_true rfl) (Nat.le_refl _) rfl (by simpa using e2) (by simp)
                ⟨⟨rfl, _, hi, leB.refl _⟩, ⟨under_bytes hf, _, hk, leB.arr (Nat.le_refl _) fun j hj => (ren_bytes (hf j hj)).symm⟩, trivial⟩ trivial
            · trivial
          · trivial
        · trivial
      · trivial
    · trivial
  · trivial
include hG in
theorem hl_ws_ok (xs : List AV) (m : St) : HRok Tryz.prog G 76 xs m (hl_ws xs m) := by
  unfold hl_ws
  split
  · rename_i i b
    split
    · rename_i T a b' hi
      split
      · rename_i hT
        have := Nat.eq_of_beq_eq_true hT
        subst this
        split
        · rename_i n f
          rintro ⟨rfl, hc⟩
          exact hc_small (hc_ws_nil G hG f b hc) [i] [] (Nat.le_of_ble_eq_true rfl) (Nat.le_refl _) rfl (by simp) (by simp) ⟨⟨rfl, _, hi, leB.refl _⟩, trivial⟩ trivial
        · rename_i i2 k n
          split
          · rename_i U n' f hk
            split
            · rename_i e1 e2 e3
              have e1 := Nat.eq_of_beq_eq_true e1
              have e2 := Nat.ne_of_beq_eq_false e2
              have e3 := Nat.eq_of_beq_eq_true e3
              subst e1; subst e3
              rintro ⟨rfl, hn, hf⟩
              exact hc_small (hc_wsl_row G hG n' f b hn hf) [i2, k] [] (Nat.le_of_ble_eq_true rfl) (Nat.le_refl _) rfl (by simpa using e2) (by simp)
                ⟨⟨rfl, _, hi, leB.refl _⟩, ⟨under_bytes hf, _, hk, leB.arr (Nat.le_refl _) fun j hj => (ren_bytes (hf j hj)).symm⟩, trivial⟩ trivial
            · trivial
          · trivial
        · trivial
      · trivial
    · trivial
  · trivial
end
end Go.Proofs.YtejepcnoflahkaaGreatDoor
