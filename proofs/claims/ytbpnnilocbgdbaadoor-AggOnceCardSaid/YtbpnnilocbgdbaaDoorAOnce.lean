/- AggOnce: a distinct total is that of its values without those that came ahead already: the walk. -/
import Derived.Test.YtbpnnilocbgdbaaDoorAOrder
namespace Go.Proofs.YtbpnnilocbgdbaaDoor
open Go Go.Ab
set_option linter.unusedVariables false
set_option linter.unusedSimpArgs false
set_option maxRecDepth 100000
set_option maxHeartbeats 8000000

theorem ddp_snoc (x : V) : ∀ (l S : List V), ddp S (l ++ [x]) = if x ∈ S ∨ x ∈ l then ddp S l else ddp S l ++ [x]
  | [], S => by
    have hd : ∀ (S : List V) (v : V) (l : List V), ddp S (v :: l) = if v ∈ S then ddp S l else v :: ddp (v :: S) l := fun _ _ _ => rfl
    rw [List.nil_append, hd]
    by_cases h : x ∈ S
    · rw [if_pos h, if_pos (.inl h)]
    · rw [if_neg h, if_neg (by simpa using h)]
      rfl
  | v :: l, S => by
    have hd : ∀ (S : List V) (v : V) (l : List V), ddp S (v :: l) = if v ∈ S then ddp S l else v :: ddp (v :: S) l := fun _ _ _ => rfl
    rw [List.cons_append, hd, hd]
    by_cases h : v ∈ S
    · rw [if_pos h, if_pos h, ddp_snoc x l S]
      by_cases h2 : x ∈ S ∨ x ∈ l
      · rw [if_pos h2, if_pos (h2.imp id (List.mem_cons_of_mem _))]
      · rw [if_neg h2, if_neg]
        rintro (h3 | h3)
        · exact h2 (.inl h3)
        · rcases List.mem_cons.1 h3 with rfl | h3
          · exact h2 (.inl h)
          · exact h2 (.inr h3)
    · rw [if_neg h, if_neg h, ddp_snoc x l (v :: S)]
      by_cases h2 : x ∈ v :: S ∨ x ∈ l
      · rw [if_pos h2, if_pos]
        rcases h2 with h2 | h2
        · rcases List.mem_cons.1 h2 with rfl | h2
          · exact .inr (by simp)
          · exact .inl h2
        · exact .inr (List.mem_cons_of_mem _ h2)
      · rw [if_neg h2, if_neg]
        · rfl
        · rintro (h3 | h3)
          · exact h2 (.inl (List.mem_cons_of_mem _ h3))
          · rcases List.mem_cons.1 h3 with rfl | h3
            · exact h2 (.inl (by simp))
            · exact h2 (.inr h3)
/-- the first i values, each once -/
def onceF (l : List V) (i : Nat) : List V := ddp [] (l.take i)
theorem once_step (l : List V) (i : Nat) (h : i < l.length) : onceF l (i + 1) = if l.getD i null ∈ l.take i then onceF l i else onceF l i ++ [l.getD i null] := by
  unfold onceF
  rw [List.take_succ_eq_append_getElem h, ddp_snoc, List.getD_eq_getElem?_getD, List.getElem?_eq_getElem h]
  simp
theorem once_len (l : List V) (i : Nat) : (onceF l i).length ≤ i := Nat.le_trans (ddp_len _ _) (by rw [List.length_take]; omega)
theorem take_mem {l : List V} {i : Nat} (h : i ≤ l.length) (x : V) : x ∈ l.take i ↔ ∃ j, j < i ∧ l.getD j null = x := by
  rw [List.mem_take_iff_getElem]
  constructor
  · rintro ⟨j, hj, e⟩
    exact ⟨j, by omega, by rw [List.getD_eq_getElem?_getD, List.getElem?_eq_getElem (by omega)]; exact e⟩
  · rintro ⟨j, hj, e⟩
    refine ⟨j, by omega, ?_⟩
    rw [List.getD_eq_getElem?_getD, List.getElem?_eq_getElem (by omega)] at e
    exact e
@[reducible] def lit6 : List (List UInt8) := [[99, 111, 117, 110, 116], [115, 117, 109], [116, 111, 116, 97, 108], [109, 105, 110], [109, 97, 120], [103, 114, 111, 117, 112, 95, 99, 111, 110, 99, 97, 116]]
@[reducible] def nameS (w : Int) : List UInt8 := lit6.getD ((IntKind.i64.wrap w).tmod 6).toNat []
theorem six {w : Int} (hw : 0 ≤ w ∧ w ≤ 255) : 0 ≤ (IntKind.i64.wrap w).tmod 6 ∧ (IntKind.i64.wrap w).tmod 6 < 6 := by
  rw [wrap_id (by unfold i64; omega)]
  exact ⟨Int.tmod_nonneg _ hw.1, Int.tmod_lt_of_pos _ (by decide)⟩
theorem nameS_mem {w : Int} (hw : 0 ≤ w ∧ w ≤ 255) : nameS w ∈ lit6 := by
  have := six hw
  unfold nameS
  rw [List.getD_eq_getElem?_getD, List.getElem?_eq_getElem (by show _ < 6; omega)]
  show lit6[((IntKind.i64.wrap w).tmod 6).toNat]'_ ∈ lit6
  exact List.getElem_mem _
theorem nameS_star {w : Int} (hw : 0 ≤ w ∧ w ≤ 255) : nameS w ≠ sStar := fun h => by
  have := nameS_mem hw
  rw [h] at this
  exact absurd this (by decide)
theorem same_iff {x y : V} : sameV x y = decide (x = y) := by
  obtain ⟨a, b, c⟩ := x
  obtain ⟨d, e, f⟩ := y
  rw [Bool.eq_iff_iff]
  simp [sameV, V.mk.injEq]
theorem lt_one' {P : Nat → Prop} (h : P 0) : ∀ q, q < 1 → P q := lt_one h
theorem snoc_vF (m : List V) (x : V) {n : Nat} (h : m.length = n) (j : Nat) (hj : j < n + 1) : joinF n (vF m) (elemA true 3 [.int .u8 x.k, .int .i64 x.n, .str x.s]) j = vF (m ++ [x]) j := by
  subst h
  unfold vF
  rw [List.getD_eq_getElem?_getD]
  by_cases h : j < m.length
  · rw [joinF_lo h, List.getElem?_append_left h, List.getD_eq_getElem?_getD]
  · rw [joinF_hi (by omega), List.getElem?_append_right (by omega), show j - m.length = 0 from by omega]
    rfl
set_option smartUnfolding false in
theorem pc_AggOnce (w : Int) (hw : 0 ≤ w ∧ w ≤ 255) (l : List V) (hl : l.length ≤ 9223372036854775807) (hi : ∀ x ∈ l, i64 x.n) : PC Tryd.prog GV 5 [.int .u8 w, .sl .no l.length (vF l)] (.bool true) := by
  refine pc_fin EE3_ok mixed (show Tryd.prog.funcs[5]? = some Tryd.f5 from rfl) ?_
  by_cases hR : rightL l = true
  · obtain ⟨ho, hv, hl60⟩ := right_ok hR hi
    have k1 : (!rightL (lO l.length (vF l))) = false := by rw [lO_vF, hR]; rfl
    repeat' (refine BR.mk (fun h => ?_) (fun h => ?_) <;> first | with_reducible exact Bool.noConfusion h | with_reducible exact Bool.noConfusion (k1.symm.trans h) | skip)
    · exact ⟨fun _ _ => rfl, hl⟩
    · exact (show (6 : Int) ≠ 0 by decide)
    · exact ⟨six hw, rfl, rfl⟩
    refine loop_fam EE3_ok mixed (σ := Nat) (fun i => i ≤ l.length) (fun i => l.length - i) 0 (Nat.zero_le _) 0 1 [0, 1, 5] (fun i => [(6, .sl (.tok 0) (onceF l i).length (vF (onceF l i))), (7, .int .i64 i)]) [] (fun _ => []) (fun i => [(0, (onceF l i).length, 24)]) ?_ ?_ ?_ ?_
    · rfl
    · rfl
    · refine Wk.mk' rfl rfl trivial ?_ trivial
      repeat' (refine BR.mk (fun _ => ?_) (fun _ => ?_))
      any_goals first | exact trivial | exact Wv.any _ | (refine Wv.int ?_; with_reducible rfl) | (refine Wv.str ?_; with_reducible rfl) | (refine Wv.bool ?_; with_reducible rfl) | refine Wv.int ?_ | refine Wv.str ?_ | refine Wv.bool ?_ | exact Wv.same rfl
      all_goals first | rfl | exact Wv.sl rfl (fun i hi => absurd hi (Nat.not_lt_zero _)) ⟨Nat.le_of_ble_eq_true rfl, _, rfl⟩
    · intro i hi
      have hon := once_len l i
      by_cases hil : i < l.length
      · have k3 : decide ((i : Int) < (l.length : Int)) = true := decide_eq_true (by omega)
        repeat' (refine BR.mk (fun h => ?_) (fun h => ?_) <;> first | with_reducible exact Bool.noConfusion h | with_reducible exact Bool.noConfusion (k3.symm.trans h) | skip)
        refine loop_fam EE3_ok mixed (σ := Nat × Bool) (fun p => p.1 ≤ i ∧ (p.2 = true ↔ ∀ j, j < p.1 → l.getD j null ≠ l.getD i null)) (fun p => i - p.1) (0, true) ⟨Nat.zero_le _, ⟨fun _ j h => absurd h (Nat.not_lt_zero _), fun _ => rfl⟩⟩ 0 1 [0, 1, 5, 6, 7] (fun p => [(8, .bool p.2), (9, .int .i64 p.1)]) [] (fun _ => []) (fun _ => [(0, (onceF l i).length, 24)]) ?_ ?_ ?_ ?_
        · rfl
        · rfl
        · refine Wk.mk' rfl rfl ⟨fun _ => rfl, fun _ => trivial⟩ ?_ trivial
          repeat' (refine BR.mk (fun _ => ?_) (fun _ => ?_))
          any_goals first | exact trivial | exact Wv.any _ | (refine Wv.int ?_; with_reducible rfl) | (refine Wv.str ?_; with_reducible rfl) | (refine Wv.bool ?_; with_reducible rfl) | refine Wv.int ?_ | refine Wv.str ?_ | refine Wv.bool ?_ | exact Wv.same rfl
          all_goals rfl
        · rintro ⟨k, b⟩ ⟨hk, hb⟩
          simp only at hk hb
          by_cases hki : k < i
          · have k4 : decide ((k : Int) < (i : Int)) = true := decide_eq_true (by omega)
            cases b with
            | false =>
              repeat' (refine BR.mk (fun h => ?_) (fun h => ?_) <;> first | with_reducible exact Bool.noConfusion h | with_reducible exact Bool.noConfusion (k4.symm.trans h) | skip)
              · exact (show commutes _ _ = true by kernel_rfl)
              refine Again.fam (k + 1, false) ⟨by show k + 1 ≤ i; omega, ⟨fun h => Bool.noConfusion h, fun h => hb.2 fun j hj => h j (by show j < k + 1; omega)⟩⟩ (by show i - (k + 1) < i - k; omega) rfl rfl rfl rfl ⟨fun _ => rfl, fun _ => trivial⟩ ?_ trivial
              repeat' (refine BR.mk (fun _ => ?_) (fun _ => ?_))
              any_goals first | exact trivial | exact Wv.any _ | (refine Wv.int ?_; with_reducible rfl) | (refine Wv.str ?_; with_reducible rfl) | (refine Wv.bool ?_; with_reducible rfl) | refine Wv.int ?_ | refine Wv.str ?_ | refine Wv.bool ?_ | exact Wv.same rfl
              rw [wrap_id (by unfold i64; omega)]; rfl
            | true =>
              repeat' (refine BR.mk (fun h => ?_) (fun h => ?_) <;> first | with_reducible exact Bool.noConfusion h | with_reducible exact Bool.noConfusion (k4.symm.trans h) | skip)
              · exact (show commutes _ _ = true by kernel_rfl)
              · exact ⟨⟨by omega, by show (k : Int) < _; omega⟩, rfl, rfl⟩
              · exact ⟨⟨by omega, by omega⟩, rfl, rfl⟩
              · refine Again.fam (k + 1, !(sameV (l.getD k null) (l.getD i null))) ⟨by show k + 1 ≤ i; omega, ?_⟩ (by show i - (k + 1) < i - k; omega) rfl rfl rfl rfl ⟨fun _ => rfl, fun _ => trivial⟩ ?_ trivial
                · show (!(sameV (l.getD k null) (l.getD i null))) = true ↔ ∀ j, j < k + 1 → l.getD j null ≠ l.getD i null
                  rw [same_iff]
                  simp only [Bool.not_eq_true', decide_eq_false_iff_not]
                  constructor
                  · intro h j hj
                    by_cases e : j = k
                    · rw [e]; exact h
                    · exact hb.1 rfl j (by omega)
                  · intro h; exact h k (by omega)
                · repeat' (refine BR.mk (fun _ => ?_) (fun _ => ?_))
                  any_goals first | exact trivial | exact Wv.any _ | (refine Wv.int ?_; with_reducible rfl) | (refine Wv.str ?_; with_reducible rfl) | (refine Wv.bool ?_; with_reducible rfl) | refine Wv.int ?_ | refine Wv.str ?_ | refine Wv.bool ?_ | exact Wv.same rfl
                  all_goals first | rfl | (rw [wrap_id (by unfold i64; omega)]; rfl)
          · have k4 : decide ((k : Int) < (i : Int)) = false := decide_eq_false (by omega)
            cases b with
            | false =>
              repeat' (refine BR.mk (fun h => ?_) (fun h => ?_) <;> first | with_reducible exact Bool.noConfusion h | with_reducible exact Bool.noConfusion (k4.symm.trans h) | skip)
              have hm : l.getD i null ∈ l.take i := (take_mem hi _).2 (by
                obtain rfl : k = i := by omega
                refine Classical.byContradiction fun hne => Bool.noConfusion (hb.2 fun j hj e => hne ⟨j, hj, e⟩))
              have e1 : onceF l (i + 1) = onceF l i := by rw [once_step l i hil, if_pos hm]
              refine Again.fam (i + 1) hil (by show l.length - (i + 1) < l.length - i; omega) rfl rfl rfl rfl ⟨fun _ => ?_, fun _ => trivial⟩ ?_ trivial
              · show some ((onceF l (i + 1)).length, 24) = some ((onceF l i).length, 24)
                rw [e1]
              · repeat' (refine BR.mk (fun _ => ?_) (fun _ => ?_))
                any_goals first | exact trivial | exact Wv.any _ | (refine Wv.int ?_; with_reducible rfl) | (refine Wv.str ?_; with_reducible rfl) | (refine Wv.bool ?_; with_reducible rfl) | refine Wv.int ?_ | refine Wv.str ?_ | refine Wv.bool ?_ | exact Wv.same rfl
                · refine Wv.sl (by rw [e1]) (fun q _ => ?_) ⟨rfl, Nat.le_of_ble_eq_true rfl⟩
                  rw [e1]
                · rw [wrap_id (by unfold i64; omega)]; rfl
            | true =>
              have hm : l.getD i null ∉ l.take i := fun hm => by
                obtain ⟨j, hj, e⟩ := (take_mem hi _).1 hm
                exact hb.1 rfl j (by omega) e
              have e1 : onceF l (i + 1) = onceF l i ++ [l.getD i null] := by rw [once_step l i hil, if_neg hm]
              repeat' (refine BR.mk (fun h => ?_) (fun h => ?_) <;> first | with_reducible exact Bool.noConfusion h | with_reducible exact Bool.noConfusion (k4.symm.trans h) | skip)
              · exact ⟨⟨by omega, by omega⟩, rfl, rfl⟩
              · exact ⟨rfl, Nat.le_of_ble_eq_true rfl, rfl, by show ((onceF l i).length + 1) * 32 ≤ _; omega, by show (onceF l i).length + 1 ≤ _; omega, fun _ _ => rfl, lt_one rfl, lt_one rfl⟩
              · have e2 : (onceF l (i + 1)).length = (onceF l i).length + 1 := by rw [e1, List.length_append]; rfl
                refine Again.fam (i + 1) hil (by show l.length - (i + 1) < l.length - i; omega) rfl rfl rfl rfl ⟨fun _ => ?_, fun _ => trivial⟩ ?_ trivial
                · show some ((onceF l (i + 1)).length, 24) = some ((onceF l i).length + 1, 24)
                  rw [e2]
                · repeat' (refine BR.mk (fun _ => ?_) (fun _ => ?_))
                  any_goals first | exact trivial | exact Wv.any _ | (refine Wv.int ?_; with_reducible rfl) | (refine Wv.str ?_; with_reducible rfl) | (refine Wv.bool ?_; with_reducible rfl) | refine Wv.int ?_ | refine Wv.str ?_ | refine Wv.bool ?_ | exact Wv.same rfl
                  · refine Wv.sl e2.symm (fun q hq => ?_) ⟨rfl, Nat.le_of_ble_eq_true rfl⟩
                    rw [e1]
                    exact snoc_vF (onceF l i) (l.getD i null) rfl q (by rw [e2] at hq; exact hq)
                  · rw [wrap_id (by unfold i64; omega)]; rfl
      · have k3 : decide ((i : Int) < (l.length : Int)) = false := decide_eq_false (by omega)
        obtain rfl : i = l.length := by omega
        have hE : onceF l l.length = ddp [] l := by unfold onceF; rw [List.take_length]
        have dOf : (∀ i, i < l.length → isV (vF l i) = true) ∧ OkL (lO l.length (vF l)) := ⟨fun _ _ => rfl, by rw [lO_vF]; exact ho⟩
        have hok : OkL (lO (onceF l l.length).length (vF (onceF l l.length))) := by
          rw [lO_vF, hE]
          exact ⟨Nat.le_trans (ddp_len _ _) ho.1, fun x hx => ho.2.1 x ((ddp_mem _ _ _).1 hx).1, fun x hx => ho.2.2 x ((ddp_mem _ _ _).1 hx).1⟩
        have hXY : ofS (nameS w) true (lO l.length (vF l)) = ofS (nameS w) false (lO (onceF l l.length).length (vF (onceF l l.length))) := by
          rw [lO_vF, lO_vF, hE]
          exact of_once (nameS_star hw) hv (by omega)
        have k5 : (!sameV (ofS (nameS w) true (lO l.length (vF l))).v (ofS (nameS w) false (lO (onceF l l.length).length (vF (onceF l l.length)))).v) = false := by rw [same_v (congrArg R.v hXY)]; rfl
        have k6 : ((ofS (nameS w) true (lO l.length (vF l))).e != (ofS (nameS w) false (lO (onceF l l.length).length (vF (onceF l l.length)))).e) = false := by rw [bne, same_e hXY]; rfl
        have best : nameS w = [109, 105, 110] ∨ nameS w = [109, 97, 120] → sameV (ofS (nameS w) true (lO l.length (vF l))).v (ofS (nameS w) false (lO l.length (vF l))).v = true ∧ ((ofS (nameS w) false (lO l.length (vF l))).e == 0) = true := fun h => by
          rw [lO_vF]
          refine ⟨same_v (congrArg R.v (of_best h hv (by omega))), ?_⟩
          rw [of_best_e h fun x hx => (hv x hx).1]; rfl
        by_cases h1 : nameS w = [109, 105, 110]
        · have k7 : (!(nameS w == [109, 105, 110])) = false := by rw [h1]; rfl
          obtain ⟨k9, k10⟩ := best (.inl h1)
          repeat' (refine BR.mk (fun h => ?_) (fun h => ?_) <;> first | with_reducible exact Bool.noConfusion h | with_reducible exact Bool.noConfusion (k3.symm.trans h) | with_reducible exact Bool.noConfusion (k5.symm.trans h) | with_reducible exact Bool.noConfusion (k6.symm.trans h) | with_reducible exact Bool.noConfusion (k7.symm.trans h) | with_reducible exact Bool.noConfusion (k9.symm.trans h) | with_reducible exact Bool.noConfusion (k10.symm.trans h) | skip)
          · exact dOf
          · exact ⟨fun _ _ => rfl, hok⟩
          · exact dOf
          · exact Fini.mk rfl
        · have k7 : (!(nameS w == [109, 105, 110])) = true := by simpa using h1
          by_cases h2 : nameS w = [109, 97, 120]
          · have k8 : (!(nameS w == [109, 97, 120])) = false := by rw [h2]; rfl
            obtain ⟨k9, k10⟩ := best (.inr h2)
            repeat' (refine BR.mk (fun h => ?_) (fun h => ?_) <;> first | with_reducible exact Bool.noConfusion h | with_reducible exact Bool.noConfusion (k3.symm.trans h) | with_reducible exact Bool.noConfusion (k5.symm.trans h) | with_reducible exact Bool.noConfusion (k6.symm.trans h) | with_reducible exact Bool.noConfusion (k7.symm.trans h) | with_reducible exact Bool.noConfusion (k8.symm.trans h) | with_reducible exact Bool.noConfusion (k9.symm.trans h) | with_reducible exact Bool.noConfusion (k10.symm.trans h) | skip)
            · exact dOf
            · exact ⟨fun _ _ => rfl, hok⟩
            · exact dOf
            · exact Fini.mk rfl
          · have k8 : (!(nameS w == [109, 97, 120])) = true := by simpa using h2
            repeat' (refine BR.mk (fun h => ?_) (fun h => ?_) <;> first | with_reducible exact Bool.noConfusion h | with_reducible exact Bool.noConfusion (k3.symm.trans h) | with_reducible exact Bool.noConfusion (k5.symm.trans h) | with_reducible exact Bool.noConfusion (k6.symm.trans h) | with_reducible exact Bool.noConfusion (k7.symm.trans h) | with_reducible exact Bool.noConfusion (k8.symm.trans h) | skip)
            · exact dOf
            · exact ⟨fun _ _ => rfl, hok⟩
            · exact dOf
            · exact Fini.mk rfl
  · have k1 : (!rightL (lO l.length (vF l))) = true := by rw [lO_vF]; simpa using hR
    repeat' (refine BR.mk (fun h => ?_) (fun h => ?_) <;> first | with_reducible exact Bool.noConfusion h | with_reducible exact Bool.noConfusion (k1.symm.trans h) | skip)
    · exact ⟨fun _ _ => rfl, hl⟩
    · exact Fini.mk rfl

end Go.Proofs.YtbpnnilocbgdbaaDoor
