/- AggNulls: NULLs say nothing; one value alone is its own total: the walk. -/
import Derived.Test.YtbpnnilocbgdbaaDoorAOrder
namespace Go.Proofs.YtbpnnilocbgdbaaDoor
open Go Go.Ab
set_option linter.unusedVariables false
set_option linter.unusedSimpArgs false
set_option maxRecDepth 100000
set_option maxHeartbeats 8000000

def names6 : List (List UInt8) := [sCount, sSum, sTotal, sMin, sMax, sConcat]
@[reducible] def lit6 : List (List UInt8) := [[99, 111, 117, 110, 116], [115, 117, 109], [116, 111, 116, 97, 108], [109, 105, 110], [109, 97, 120], [103, 114, 111, 117, 112, 95, 99, 111, 110, 99, 97, 116]]
@[reducible] def nameS (w : Int) : List UInt8 := lit6.getD ((IntKind.i64.wrap w).tmod 6).toNat []
theorem six {w : Int} (hw : 0 ≤ w ∧ w ≤ 255) : 0 ≤ (IntKind.i64.wrap w).tmod 6 ∧ (IntKind.i64.wrap w).tmod 6 < 6 := by
  rw [wrap_id (by unfold i64; omega)]
  exact ⟨Int.tmod_nonneg _ hw.1, Int.tmod_lt_of_pos _ (by decide)⟩
theorem nameS_mem {w : Int} (hw : 0 ≤ w ∧ w ≤ 255) : nameS w ∈ names6 := by
  have := six hw
  unfold nameS
  rw [List.getD_eq_getElem?_getD, List.getElem?_eq_getElem (by show _ < 6; omega)]
  show lit6[((IntKind.i64.wrap w).tmod 6).toNat]'_ ∈ lit6
  exact List.getElem_mem _
theorem nameS_star {w : Int} (hw : 0 ≤ w ∧ w ≤ 255) : nameS w ≠ sStar := fun h => by
  have := nameS_mem hw
  rw [h] at this
  exact absurd this (by decide)
/-- NULLs put between -/
def moreL : List V → List V
  | [] => []
  | x :: l => null :: x :: moreL l
theorem more_app : ∀ l m : List V, moreL (l ++ m) = moreL l ++ moreL m
  | [], _ => rfl
  | x :: l, m => by show null :: x :: moreL (l ++ m) = _; rw [more_app l m]; rfl
theorem more_len : ∀ l : List V, (moreL l).length = 2 * l.length
  | [] => rfl
  | x :: l => by show (moreL l).length + 2 = 2 * (l.length + 1); rw [more_len l]; omega
theorem more_take (l : List V) (i : Nat) (h : i < l.length) : moreL (l.take (i + 1)) = moreL (l.take i) ++ [null, l.getD i null] := by
  rw [List.take_succ_eq_append_getElem h, more_app, List.getD_eq_getElem?_getD, List.getElem?_eq_getElem h]
  rfl
theorem more_live : ∀ l : List V, live (moreL l) = live l
  | [] => rfl
  | x :: l => by
    show live (null :: x :: moreL l) = _
    rw [live_cons, if_pos (show null.k = 0 from rfl), live_cons, live_cons, more_live l]
theorem live_app (l m : List V) : live (l ++ m) = live l ++ live m := List.filter_append ..
theorem more_mem : ∀ (l : List V) (x : V), x ∈ moreL l → x = null ∨ x ∈ l
  | [], x, h => (List.not_mem_nil h).elim
  | y :: l, x, h => by
    rcases List.mem_cons.1 h with h | h
    · exact .inl h
    · rcases List.mem_cons.1 h with h | h
      · exact .inr (by simp [h])
      · rcases more_mem l x h with h | h
        · exact .inl h
        · exact .inr (by simp [h])
theorem ok_null : okV' null := ⟨by unfold right; decide, by decide⟩
theorem comes_true {want : V} {name : List UInt8} {d : Bool} {l : List V} (h : ofS name d l = ⟨want, 0⟩) : comesS want name d l = true := by
  unfold comesS
  rw [h]
  simp
theorem six_new {w : Int} (hw : 0 ≤ w ∧ w ≤ 255) (d : Bool) : newE (nameS w) d = 0 := by
  have h : ∀ n ∈ names6, ∀ d, newE n d = 0 := by decide
  exact h _ (nameS_mem hw) d
theorem nulls_eq {w : Int} (hw : 0 ≤ w ∧ w ≤ 255) (d : Bool) {l : List V} (hv : ∀ x ∈ l, okV' x) (hl : l.length ≤ 60) : ofS (nameS w) d l = ofS (nameS w) d (moreL l ++ [null]) := by
  refine of_live (nameS_star hw) ?_ hv (by omega) (fun x hx => ?_) (by rw [List.length_append, more_len]; show 2 * l.length + 1 < _; omega)
  · rw [live_app, more_live]
    show live l = live l ++ []
    rw [List.append_nil]
  · rcases List.mem_append.1 hx with h | h
    · rcases more_mem l x h with rfl | h
      · exact ok_null
      · exact hv x h
    · rw [List.mem_singleton.1 h]; exact ok_null
@[reducible] def tailF (fs : List (Nat × Nat × Bool)) (n : Nat) (f : Nat → AV) : Nat → AV := joinF n f (elemA (TD.struct fs).agg 3 [.int .u8 0, .int .i64 0, .str []])
theorem tail_vF (fs : List (Nat × Nat × Bool)) (m : List V) {n : Nat} (h : m.length = n) : lO (n + 1) (tailF fs n (vF m)) = m ++ [null] := by
  subst h
  have e : lO (m.length + 1) (vF (m ++ [null])) = m ++ [null] := by
    have := lO_vF (m ++ [null])
    rwa [List.length_append] at this
  rw [← e]
  unfold lO
  refine List.map_congr_left fun i hi => ?_
  have hi := List.mem_range.1 hi
  unfold tailF
  by_cases h : i < m.length
  · rw [joinF_lo h]
    unfold vF
    rw [List.getD_eq_getElem?_getD, List.getD_eq_getElem?_getD, List.getElem?_append_left h]
  · rw [joinF_hi (by omega), show i - m.length = 0 from by omega]
    unfold vF
    rw [List.getD_eq_getElem?_getD, List.getElem?_append_right (by omega), show i - m.length = 0 from by omega]
    rfl
theorem tail_V (fs : List (Nat × Nat × Bool)) (m : List V) {n : Nat} : ∀ i, i < n + 1 → isV (tailF fs n (vF m) i) = true := fun i hi => by
  unfold tailF
  by_cases h : i < n
  · rw [joinF_lo h]; rfl
  · rw [joinF_hi (by omega), show i - n = 0 from by omega]; rfl
theorem lt_two {P : Nat → Prop} (h0 : P 0) (h1 : P 1) : ∀ q, q < 2 → P q := fun q hq => by
  have : q = 0 ∨ q = 1 := by omega
  rcases this with rfl | rfl
  · exact h0
  · exact h1
theorem more_vF (m : List V) (x : V) {n : Nat} (h : m.length = n) (j : Nat) (hj : j < n + 2) : joinF n (vF m) (elemA true 3 [.int .u8 0, .int .i64 0, .str [], .int .u8 x.k, .int .i64 x.n, .str x.s]) j = vF (m ++ [null, x]) j := by
  subst h
  unfold vF
  rw [List.getD_eq_getElem?_getD]
  by_cases h : j < m.length
  · rw [joinF_lo h, List.getElem?_append_left h, List.getD_eq_getElem?_getD]
  · rw [joinF_hi (by omega), List.getElem?_append_right (by omega)]
    have : j - m.length = 0 ∨ j - m.length = 1 := by omega
    rcases this with e | e <;> rw [e] <;> rfl
theorem one_list {l : List V} (h : l.length = 1) : l = [l.getD 0 null] := by
  cases l with
  | nil => cases h
  | cons x l => cases l with
    | nil => rfl
    | cons y l => cases h
set_option smartUnfolding false in
theorem pc_AggNulls (w : Int) (hw : 0 ≤ w ∧ w ≤ 255) (d : Bool) (l : List V) (hl : l.length ≤ 9223372036854775807) (hi : ∀ x ∈ l, i64 x.n) : PC Tryd.prog GV 6 [.int .u8 w, .bool d, .sl .no l.length (vF l)] (.bool true) := by
  refine pc_fin EE3_ok mixed (show Tryd.prog.funcs[6]? = some Tryd.f6 from rfl) ?_
  by_cases hR : rightL l = true
  · obtain ⟨ho, hv, hl60⟩ := right_ok hR hi
    have k1 : (!rightL (lO l.length (vF l))) = false := by rw [lO_vF, hR]; rfl
    have hM := fun fs => tail_vF fs (moreL (l.take l.length)) (n := 2 * l.length) (by rw [List.take_length, more_len])
    have hXY : ∀ fs, ofS (nameS w) d (lO l.length (vF l)) = ofS (nameS w) d (lO (2 * l.length + 1) (tailF fs (2 * l.length) (vF (moreL (l.take l.length))))) := by
      intro fs
      rw [hM, lO_vF, List.take_length]
      exact nulls_eq hw d hv hl60
    have k4 : ∀ fs, (!sameV (ofS (nameS w) d (lO l.length (vF l))).v (ofS (nameS w) d (lO (2 * l.length + 1) (tailF fs (2 * l.length) (vF (moreL (l.take l.length)))))).v) = false := fun fs => by rw [same_v (congrArg R.v (hXY fs))]; rfl
    have k5 : ∀ fs, ((ofS (nameS w) d (lO l.length (vF l))).e != (ofS (nameS w) d (lO (2 * l.length + 1) (tailF fs (2 * l.length) (vF (moreL (l.take l.length)))))).e) = false := fun fs => by rw [bne, same_e (hXY fs)]; rfl
    have hok : ∀ fs, OkL (lO (2 * l.length + 1) (tailF fs (2 * l.length) (vF (moreL (l.take l.length))))) := by
      intro fs
      rw [hM, List.take_length]
      refine ⟨by rw [List.length_append, more_len]; show 2 * l.length + 1 ≤ _; omega, ?_⟩
      have : ∀ x ∈ moreL l ++ [null], okV' x := fun x hx => by
        rcases List.mem_append.1 hx with h | h
        · rcases more_mem l x h with rfl | h
          · exact ok_null
          · exact hv x h
        · rw [List.mem_singleton.1 h]; exact ok_null
      exact ⟨fun x hx => (this x hx).1, fun x hx => (this x hx).2⟩
    have dOf : (∀ i, i < l.length → isV (vF l i) = true) ∧ OkL (lO l.length (vF l)) := ⟨fun _ _ => rfl, by rw [lO_vF]; exact ho⟩
    by_cases h40 : l.length ≤ 40
    · have k2 : decide ((l.length : Int) > 40) = false := decide_eq_false (by omega)
      repeat' (refine BR.mk (fun h => ?_) (fun h => ?_) <;> first | with_reducible exact Bool.noConfusion h | with_reducible exact Bool.noConfusion (k1.symm.trans h) | with_reducible exact Bool.noConfusion (k2.symm.trans h) | skip)
      · exact ⟨fun _ _ => rfl, hl⟩
      · exact (show (6 : Int) ≠ 0 by decide)
      · exact ⟨six hw, rfl, rfl⟩
      refine loop_fam EE3_ok mixed (σ := Nat) (fun i => i ≤ l.length) (fun i => l.length - i) 0 (Nat.zero_le _) 0 1 [0, 1, 2, 7] (fun i => [(8, .sl (.tok 0) (2 * i) (vF (moreL (l.take i)))), (9, .int .i64 i)]) [] (fun _ => []) (fun i => [(0, 2 * i, 24)]) ?_ ?_ ?_ ?_
      · rfl
      · rfl
      · refine Wk.mk' rfl rfl trivial ?_ trivial
        repeat' (refine BR.mk (fun _ => ?_) (fun _ => ?_))
        any_goals first | exact trivial | exact Wv.any _ | (refine Wv.int ?_; with_reducible rfl) | (refine Wv.str ?_; with_reducible rfl) | (refine Wv.bool ?_; with_reducible rfl) | refine Wv.int ?_ | refine Wv.str ?_ | refine Wv.bool ?_ | exact Wv.same rfl
        all_goals first | rfl | exact Wv.sl rfl (fun i hi => absurd hi (Nat.not_lt_zero _)) ⟨Nat.le_of_ble_eq_true rfl, _, rfl⟩
      · intro i hi
        by_cases hil : i < l.length
        · have k3 : decide ((i : Int) < (l.length : Int)) = true := decide_eq_true (by omega)
          repeat' (refine BR.mk (fun h => ?_) (fun h => ?_) <;> first | with_reducible exact Bool.noConfusion h | with_reducible exact Bool.noConfusion (k3.symm.trans h) | skip)
          · exact ⟨⟨by omega, by omega⟩, rfl, rfl⟩
          · exact ⟨rfl, Nat.le_of_ble_eq_true rfl, rfl, by show (2 * i + 2) * 32 ≤ _; omega, by show 2 * i + 2 ≤ _; omega, fun _ _ => rfl, lt_two rfl rfl, lt_two rfl rfl⟩
          · refine Again.fam (i + 1) hil (by show _ < _; omega) rfl rfl rfl rfl ⟨fun _ => ?_, fun _ => trivial⟩ ?_ trivial
            · show some (2 * (i + 1), 24) = some (2 * i + 2, 24)
              congr 2
            · repeat' (refine BR.mk (fun _ => ?_) (fun _ => ?_))
              any_goals first | exact trivial | exact Wv.any _ | (refine Wv.int ?_; with_reducible rfl) | (refine Wv.str ?_; with_reducible rfl) | (refine Wv.bool ?_; with_reducible rfl) | refine Wv.int ?_ | refine Wv.str ?_ | refine Wv.bool ?_ | exact Wv.same rfl
              · refine Wv.sl (by show 2 * i + 2 = 2 * (i + 1); omega) (fun q hq => ?_) ⟨rfl, Nat.le_of_ble_eq_true rfl⟩
                rw [more_take l i hil]
                exact more_vF (moreL (l.take i)) (l.getD i null) (by rw [more_len, List.length_take]; omega) q (by have : q < 2 * i + 2 := hq; omega)
              · rw [wrap_id (by unfold i64; omega)]; rfl
        · have k3 : decide ((i : Int) < (l.length : Int)) = false := decide_eq_false (by omega)
          obtain rfl : i = l.length := by omega
          by_cases h1 : l.length = 1
          · have k6 : ((l.length : Int) != 1) = false := by rw [h1]; rfl
            have hl1 := one_list h1
            have h0 : okV' (l.getD 0 null) := hv _ (by rw [hl1]; simp)
            by_cases hk : (l.getD 0 null).k = 0
            · have k7 : ((l.getD (Int.toNat 0) null).k == 0) = true := by rw [show Int.toNat 0 = 0 from rfl, hk]; rfl
              repeat' (refine BR.mk (fun h => ?_) (fun h => ?_) <;> first | with_reducible exact Bool.noConfusion h | with_reducible exact Bool.noConfusion (k3.symm.trans h) | with_reducible exact Bool.noConfusion ((k4 _).symm.trans h) | with_reducible exact Bool.noConfusion ((k5 _).symm.trans h) | with_reducible exact Bool.noConfusion (k6.symm.trans h) | with_reducible exact Bool.noConfusion (k7.symm.trans h) | skip)
              · exact dOf
              · exact ⟨rfl, Nat.le_of_ble_eq_true rfl, rfl, by show (2 * l.length + 1) * 32 ≤ _; omega, by show 2 * l.length + 1 ≤ _; omega, fun _ _ => rfl, lt_one rfl, lt_one rfl⟩
              · exact ⟨tail_V _ _, hok _⟩
              · exact ⟨⟨by omega, by omega⟩, rfl, rfl⟩
              · exact Fini.mk rfl
            · have k7 : ((l.getD (Int.toNat 0) null).k == 0) = false := by simpa using hk
              have eL : lO l.length (vF l) = [l.getD 0 null] := by rw [lO_vF]; exact hl1
              have c1 : comesS (⟨1, intV (l.getD (Int.toNat 0) null), []⟩) [115, 117, 109] d (lO l.length (vF l)) = true := by rw [eL]; exact comes_true (one_sum h0 (aintV_i64 h0.2) hk)
              have c2 : comesS (⟨1, intV (l.getD (Int.toNat 0) null), []⟩) [116, 111, 116, 97, 108] d (lO l.length (vF l)) = true := by rw [eL]; exact comes_true (one_total h0 (aintV_i64 h0.2) hk)
              have c3 : comesS (l.getD (Int.toNat 0) null) [109, 105, 110] d (lO l.length (vF l)) = true := by rw [eL]; exact comes_true (one_min h0 hk)
              have c4 : comesS (l.getD (Int.toNat 0) null) [109, 97, 120] d (lO l.length (vF l)) = true := by rw [eL]; exact comes_true (one_max h0 hk)
              have c5 : comesS (⟨2, 0, textV (l.getD (Int.toNat 0) null)⟩) [103, 114, 111, 117, 112, 95, 99, 111, 110, 99, 97, 116] d (lO l.length (vF l)) = true := by rw [eL]; exact comes_true (one_concat h0 (text_len h0.1 h0.2) hk)
              have c6 : comesS (⟨1, 1, []⟩) [99, 111, 117, 110, 116] d (lO l.length (vF l)) = true := by rw [eL]; exact comes_true (one_count h0 hk)
              repeat' (refine BR.mk (fun h => ?_) (fun h => ?_) <;> first | with_reducible exact Bool.noConfusion h | with_reducible exact Bool.noConfusion (k3.symm.trans h) | with_reducible exact Bool.noConfusion ((k4 _).symm.trans h) | with_reducible exact Bool.noConfusion ((k5 _).symm.trans h) | with_reducible exact Bool.noConfusion (k6.symm.trans h) | with_reducible exact Bool.noConfusion (k7.symm.trans h) | with_reducible exact Bool.noConfusion (c1.symm.trans h) | with_reducible exact Bool.noConfusion (c2.symm.trans h) | with_reducible exact Bool.noConfusion (c3.symm.trans h) | with_reducible exact Bool.noConfusion (c4.symm.trans h) | with_reducible exact Bool.noConfusion (c5.symm.trans h) | with_reducible exact Bool.noConfusion (c6.symm.trans h) | skip)
              · exact dOf
              · exact ⟨rfl, Nat.le_of_ble_eq_true rfl, rfl, by show (2 * l.length + 1) * 32 ≤ _; omega, by show 2 * l.length + 1 ≤ _; omega, fun _ _ => rfl, lt_one rfl, lt_one rfl⟩
              · exact ⟨tail_V _ _, hok _⟩
              · exact ⟨⟨by omega, by omega⟩, rfl, rfl⟩
              · exact (show commutesX _ _ _ = true by kernel_rfl)
              · exact ⟨⟨by omega, by omega⟩, rfl, rfl⟩
              · exact Nat.le_trans (right_len h0.1) (by decide)
              · exact ⟨⟨by omega, by omega⟩, rfl, rfl⟩
              · exact h0.2
              · exact dOf
              · exact dOf
              · exact ⟨⟨by omega, by omega⟩, rfl, rfl⟩
              · exact dOf
              · exact ⟨⟨by omega, by omega⟩, rfl, rfl⟩
              · exact dOf
              · exact dOf
              · exact dOf
              · exact Fini.mk rfl
              · exact ⟨⟨by omega, by omega⟩, rfl, rfl⟩
              · exact Nat.le_trans (right_len h0.1) (by decide)
              · exact ⟨⟨by omega, by omega⟩, rfl, rfl⟩
              · exact h0.2
              · exact dOf
              · exact dOf
              · exact ⟨⟨by omega, by omega⟩, rfl, rfl⟩
              · exact dOf
              · exact ⟨⟨by omega, by omega⟩, rfl, rfl⟩
              · exact dOf
              · exact dOf
              · exact dOf
              · exact Fini.mk rfl
          · have k6 : ((l.length : Int) != 1) = true := by simp; omega
            repeat' (refine BR.mk (fun h => ?_) (fun h => ?_) <;> first | with_reducible exact Bool.noConfusion h | with_reducible exact Bool.noConfusion (k3.symm.trans h) | with_reducible exact Bool.noConfusion ((k4 _).symm.trans h) | with_reducible exact Bool.noConfusion ((k5 _).symm.trans h) | with_reducible exact Bool.noConfusion (k6.symm.trans h) | skip)
            · exact dOf
            · exact ⟨rfl, Nat.le_of_ble_eq_true rfl, rfl, by show (2 * l.length + 1) * 32 ≤ _; omega, by show 2 * l.length + 1 ≤ _; omega, fun _ _ => rfl, lt_one rfl, lt_one rfl⟩
            · exact ⟨tail_V _ _, hok _⟩
            · exact Fini.mk rfl
    · have k2 : decide ((l.length : Int) > 40) = true := decide_eq_true (by omega)
      repeat' (refine BR.mk (fun h => ?_) (fun h => ?_) <;> first | with_reducible exact Bool.noConfusion h | with_reducible exact Bool.noConfusion (k1.symm.trans h) | with_reducible exact Bool.noConfusion (k2.symm.trans h) | skip)
      · exact ⟨fun _ _ => rfl, hl⟩
      · exact Fini.mk rfl
  · have k1 : (!rightL (lO l.length (vF l))) = true := by rw [lO_vF]; simpa using hR
    repeat' (refine BR.mk (fun h => ?_) (fun h => ?_) <;> first | with_reducible exact Bool.noConfusion h | with_reducible exact Bool.noConfusion (k1.symm.trans h) | skip)
    · exact ⟨fun _ _ => rfl, hl⟩
    · exact Fini.mk rfl

end Go.Proofs.YtbpnnilocbgdbaaDoor
