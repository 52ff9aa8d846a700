/- The package agg, tier 8: join. -/
import Derived.Test.YtejepcnoflahkaaGreatDoorAWalk7
import Derived.Lib.ItoaLen
namespace Go.Proofs.YtejepcnoflahkaaGreatDoor
open Go Go.Ab
set_option linter.unusedVariables false
set_option linter.unusedSimpArgs false
set_option maxRecDepth 100000
set_option maxHeartbeats 8000000

theorem lenL_app : ∀ a b : List (List UInt8), lenL (a ++ b) = lenL a + lenL b
  | [], b => by simp [lenL]
  | x :: a, b => by simp only [List.cons_append, lenL, lenL_app a b]; omega
theorem lenL_take (T : List (List UInt8)) (i : Nat) (h : i < T.length) : lenL (T.take (i + 1)) = lenL (T.take i) + (T.getD i []).length := by
  rw [List.take_add_one, lenL_app]
  simp [List.getD_eq_getElem?_getD, List.getElem?_eq_getElem h, lenL]
theorem lenL_mono (T : List (List UInt8)) (i : Nat) : lenL (T.take i) ≤ lenL T := by
  have := lenL_app (T.take i) (T.drop i)
  rw [List.take_append_drop] at this
  omega
theorem join_le : ∀ (T : List (List UInt8)), (Lib.join T [44]).length ≤ T.length + lenL T
  | [] => by simp [Lib.join_nil]
  | x :: r => by
    rw [Lib.join_cons]
    have : ∀ r : List (List UInt8), (Lib.joinTail [44] r).length = r.length + lenL r := by
      intro r
      induction r with
      | nil => rfl
      | cons y r ih =>
        have e : Lib.joinTail [44] (y :: r) = ([44] ++ y) ++ Lib.joinTail [44] r := rfl
        rw [e, List.length_append, ih]
        simp only [List.length_append, List.length_cons, List.length_nil, lenL]
        omega
    rw [List.length_append, this r]
    simp only [List.length_cons, lenL]
    omega
def sF (T : List (List UInt8)) : Nat → AV := fun i => .str (T.getD i [])
theorem tO_sF (T : List (List UInt8)) : tO T.length (sF T) = T := by
  unfold tO
  refine List.ext_getElem (by simp) fun j h1 h2 => ?_
  simp [sF, strOf, h2]
theorem sF_join (T : List (List UInt8)) (i : Nat) (h : i < T.length) (x : List UInt8) (hx : x = T.getD i []) : ∀ j, j < i + 1 → joinF i (sF T) (elemA false 1 [AV.str x]) j = sF T j := fun j hj => by
  by_cases hlt : j < i
  · rw [joinF_lo hlt]
  · obtain rfl : j = i := by omega
    rw [joinF_hi (Nat.le_refl _), Nat.sub_self, hx]
    rfl
theorem text_len {v : V} (h : right v = true) (hn : i64 v.n) : (textV v).length ≤ 65536 := by
  have h1 := right_len h
  unfold textV
  split
  · have := Lib.itoa_length_le v.n hn.1 hn.2
    omega
  · split
    · decide
    · exact h1
section
variable (name : List UInt8) (d : Bool) (n hi lo : Int) (b : V) (ln : Nat) (f : Nat → AV) (sn : List (List UInt8 × Int))
theorem hc_join (hf : ∀ i, i < ln → isV (f i) = true) (h0 : 0 < ln) (hl : ln ≤ 1000) (hr : ∀ x ∈ lO ln f, right x = true) (hi64 : ∀ x ∈ lO ln f, i64 x.n) :
    HC Tryz.prog GV 61 [.ptr 0 0] (St.small (accP name d n hi lo b ln f sn) [(ln, 34)]) (encR (joinS (lO ln f))) (aSt name d (accO n hi lo b ln f sn)) := by
  have hS : (sortV (lO ln f)).length = ln := by rw [sort_len, lO_len]
  have hTl : ((sortV (lO ln f)).map textV).length = ln := by rw [List.length_map, hS]
  have hT : ∀ i, i < ln → ((sortV (lO ln f)).map textV).getD i [] = textV ((sortV (lO ln f)).getD i null) := fun i hi => by
    simp [List.getD_eq_getElem?_getD, hS, hi]
  have hm : ∀ i, i < ln → (sortV (lO ln f)).getD i null ∈ lO ln f := fun i hi => by
    refine (sort_perm _).mem_iff.1 ?_
    rw [List.getD_eq_getElem?_getD, List.getElem?_eq_getElem (by rw [hS]; exact hi)]
    exact List.getElem_mem _
  unfold joinS
  rw [lO_len]
  generalize hTT : (sortV (lO ln f)).map textV = T at hTl hT
  have hTO : tO ln (sF T) = T := by rw [← hTl]; exact tO_sF T
  have w0 : IntKind.i64.wrap ((ln : Int) - 1) = ((ln - 1 : Nat) : Int) := by rw [wrap_id (by unfold i64; omega)]; omega
  by_cases hb : ln - 1 + lenL T > 65536
  · rw [if_pos hb]
    refine hc_of EB9_ok mixed (show Tryz.prog.funcs[61]? = some Tryz.f61 from rfl) (Nat.le_of_ble_eq_true rfl) (Nat.le_of_ble_eq_true rfl) ?_
    repeat' (refine BR.mk (fun h => ?_) (fun h => ?_) <;> try contradiction)
    · exact rfl
    · exact ⟨rfl, rfl, rfl, hl, hf, hr⟩
    · refine loop_fam EB9_ok mixed (σ := Nat) (fun i => i ≤ ln ∧ (ln - 1 + lenL (T.take i) ≤ 65536)) (fun i => ln - i) 0 ⟨Nat.zero_le _, by show ln - 1 + 0 ≤ 65536; omega⟩ 5 2 [0, 2, 3, 20, 21]
        (fun i => [(22, .int .i64 i), (4, .int .i64 ((ln - 1 + lenL (T.take i) : Nat) : Int)), (5, .sl (.tok 1) i (sF T))]) [0, 1, 2, 4] (fun _ => []) (fun i => [(0, ln, 34), (1, i, 9)]) ?_ ?_ ?_ ?_
      · rfl
      · rfl
      · refine Wk.mk' rfl rfl ⟨fun _ => rfl, fun _ => trivial⟩ ?_ ?_
        repeat' (refine BR.mk (fun _ => ?_) (fun _ => ?_))
        any_goals first | exact trivial | exact Wv.any _ | (refine Wv.int ?_; with_reducible rfl) | (refine Wv.str ?_; with_reducible rfl) | (refine Wv.bool ?_; with_reducible rfl) | refine Wv.int ?_ | refine Wv.str ?_ | refine Wv.bool ?_ | exact Wv.same rfl
        · rfl
        · exact w0
        · exact Wv.sl rfl (fun i hi => absurd hi (Nat.not_lt_zero _)) ⟨Nat.le_of_ble_eq_true rfl, _, rfl⟩
        · exact ⟨Nat.le_of_ble_eq_true rfl, .inl ⟨rfl, _, rfl, WvL.same rfl⟩⟩
        · exact ⟨Nat.le_of_ble_eq_true rfl, .inl ⟨rfl, _, rfl, rfl, keep_enc1 _ _ _ _, keep_enc2 _ _ _ _⟩⟩
        · exact ⟨Nat.le_of_ble_eq_true rfl, .inl ⟨rfl, _, rfl, WvL.same rfl⟩⟩
        · exact ⟨Nat.le_of_ble_eq_true rfl, .inl ⟨rfl, _, rfl, arr_same (fun j _ => rfl) fun j _ => rfl⟩⟩
      · rintro i ⟨hi1, hi2⟩
        have et : i < ln → textV ((sortV (lO ln f)).getD (0 + ((i : Int)).toNat) null) = T.getD i [] := fun h => by rw [show 0 + ((i : Int)).toNat = i from by omega]; exact (hT i h).symm
        have el : i < ln → lenL (T.take (i + 1)) = lenL (T.take i) + (T.getD i []).length := fun h => lenL_take T i (by rw [hTl]; exact h)
        have em := lenL_mono T (i + 1)
        have tl := fun h : i < ln => text_len (hr _ (hm i h)) (hi64 _ (hm i h))
        have wn : i < ln → IntKind.i64.wrap (((ln - 1 + lenL (T.take i) : Nat) : Int) + ((textV ((sortV (lO ln f)).getD (0 + ((i : Int)).toNat) null)).length : Int)) = ((ln - 1 + lenL (T.take (i + 1)) : Nat) : Int) := fun h => by
          rw [et h, el h]
          have := tl h
          rw [← hT i h] at this
          rw [wrap_id (by unfold i64; omega)]
          omega
        repeat' (refine BR.mk (fun h => ?_) (fun h => ?_) <;> try contradiction)
        · rename_i h1; simp only [decide_eq_true_eq] at h1
          exact ⟨⟨by omega, by omega⟩, rfl⟩
        · rename_i h1 _; simp only [decide_eq_true_eq] at h1
          exact ⟨by rw [hS]; omega, rfl⟩
        · rename_i h1 _ _; simp only [decide_eq_true_eq] at h1
          rw [show 0 + ((i : Int)).toNat = i from by omega]
          exact hi64 _ (hm i (by omega))
        · rename_i h1 _ _ _; simp only [decide_eq_true_eq] at h1
          have h2 : IntKind.i64.wrap (((ln - 1 + lenL (T.take i) : Nat) : Int) + ((textV ((sortV (lO ln f)).getD (0 + ((i : Int)).toNat) null)).length : Int)) > 65536 := of_decide_eq_true h
          rw [wn (by omega)] at h2
          refine Go.Ab.Left.mk (Nat.le_of_ble_eq_true rfl) ⟨[], fun _ _ => rfl, Wv.same rfl, wk_accG name d (accO n hi lo b ln f sn) ln f (lO_len _ _) (lO_get hf) ⟨_, _, _, _, _, _, rfl, rfl, rfl, rfl, rfl, rfl, rfl⟩ rfl ⟨_, rfl, rfl⟩ (Nat.le_of_ble_eq_true rfl) rfl⟩
        · rename_i h1 _ _ _ hx; simp only [decide_eq_true_eq] at h1
          exact ⟨rfl, by decide, rfl, by show (i + 1) * 16 ≤ _; omega, by omega, fun j _ => rfl, all1 rfl, all1 rfl⟩
        · rename_i h1 _ _ _ hx; simp only [decide_eq_true_eq] at h1
          have h2 : ¬ IntKind.i64.wrap (((ln - 1 + lenL (T.take i) : Nat) : Int) + ((textV ((sortV (lO ln f)).getD (0 + ((i : Int)).toNat) null)).length : Int)) > 65536 := of_decide_eq_false hx
          rw [wn (by omega)] at h2
          refine Again.fam (i + 1) ⟨by omega, by omega⟩ (by omega) rfl rfl rfl rfl ⟨fun _ => rfl, fun _ => ⟨fun _ => rfl, fun _ => trivial⟩⟩ ?_ ?_
          · repeat' (refine BR.mk (fun _ => ?_) (fun _ => ?_))
            any_goals first | exact trivial | exact Wv.any _ | (refine Wv.int ?_; with_reducible rfl) | (refine Wv.str ?_; with_reducible rfl) | (refine Wv.bool ?_; with_reducible rfl) | refine Wv.int ?_ | refine Wv.str ?_ | refine Wv.bool ?_ | exact Wv.same rfl
            · rw [wrap_id (by unfold i64; omega)]; rfl
            · exact wn (by omega)
            · exact Wv.sl rfl (sF_join T i (by rw [hTl]; omega) _ (et (by omega))) ⟨rfl, Nat.le_of_ble_eq_true rfl⟩
          · repeat' (refine BR.mk (fun _ => ?_) (fun _ => ?_))
            any_goals first | exact trivial | exact Wv.any _ | (refine Wv.int ?_; with_reducible rfl) | (refine Wv.str ?_; with_reducible rfl) | (refine Wv.bool ?_; with_reducible rfl) | refine Wv.int ?_ | refine Wv.str ?_ | refine Wv.bool ?_ | exact Wv.same rfl
            · exact ⟨Nat.le_of_ble_eq_true rfl, .inl ⟨rfl, _, rfl, WvL.same rfl⟩⟩
            · exact ⟨Nat.le_of_ble_eq_true rfl, .inl ⟨rfl, _, rfl, rfl, keep_enc1 _ _ _ _, keep_enc2 _ _ _ _⟩⟩
            · exact ⟨Nat.le_of_ble_eq_true rfl, .inl ⟨rfl, _, rfl, WvL.same rfl⟩⟩
            · exact ⟨Nat.le_of_ble_eq_true rfl, .inl ⟨rfl, _, rfl, arr_same (fun j _ => rfl) fun j _ => rfl⟩⟩
        · rename_i h1; simp only [decide_eq_false_iff_not] at h1
          have : ln = i := by omega
          subst this
          exfalso; rw [← hTl, List.take_length] at hi2; omega
        · rename_i h1; simp only [decide_eq_false_iff_not] at h1
          have : ln = i := by omega
          subst this
          exfalso; rw [← hTl, List.take_length] at hi2; omega
  · rw [if_neg hb]
    refine hc_of EB9_ok mixed (show Tryz.prog.funcs[61]? = some Tryz.f61 from rfl) (Nat.le_of_ble_eq_true rfl) (Nat.le_of_ble_eq_true rfl) ?_
    repeat' (refine BR.mk (fun h => ?_) (fun h => ?_) <;> try contradiction)
    · exact rfl
    · exact ⟨rfl, rfl, rfl, hl, hf, hr⟩
    · refine loop_fam EB9_ok mixed (σ := Nat) (fun i => i ≤ ln ∧ (ln - 1 + lenL (T.take i) ≤ 65536)) (fun i => ln - i) 0 ⟨Nat.zero_le _, by show ln - 1 + 0 ≤ 65536; omega⟩ 5 2 [0, 2, 3, 20, 21]
        (fun i => [(22, .int .i64 i), (4, .int .i64 ((ln - 1 + lenL (T.take i) : Nat) : Int)), (5, .sl (.tok 1) i (sF T))]) [0, 1, 2, 4] (fun _ => []) (fun i => [(0, ln, 34), (1, i, 9)]) ?_ ?_ ?_ ?_
      · rfl
      · rfl
      · refine Wk.mk' rfl rfl ⟨fun _ => rfl, fun _ => trivial⟩ ?_ ?_
        repeat' (refine BR.mk (fun _ => ?_) (fun _ => ?_))
        any_goals first | exact trivial | exact Wv.any _ | (refine Wv.int ?_; with_reducible rfl) | (refine Wv.str ?_; with_reducible rfl) | (refine Wv.bool ?_; with_reducible rfl) | refine Wv.int ?_ | refine Wv.str ?_ | refine Wv.bool ?_ | exact Wv.same rfl
        · rfl
        · exact w0
        · exact Wv.sl rfl (fun i hi => absurd hi (Nat.not_lt_zero _)) ⟨Nat.le_of_ble_eq_true rfl, _, rfl⟩
        · exact ⟨Nat.le_of_ble_eq_true rfl, .inl ⟨rfl, _, rfl, WvL.same rfl⟩⟩
        · exact ⟨Nat.le_of_ble_eq_true rfl, .inl ⟨rfl, _, rfl, rfl, keep_enc1 _ _ _ _, keep_enc2 _ _ _ _⟩⟩
        · exact ⟨Nat.le_of_ble_eq_true rfl, .inl ⟨rfl, _, rfl, WvL.same rfl⟩⟩
        · exact ⟨Nat.le_of_ble_eq_true rfl, .inl ⟨rfl, _, rfl, arr_same (fun j _ => rfl) fun j _ => rfl⟩⟩
      · rintro i ⟨hi1, hi2⟩
        have et : i < ln → textV ((sortV (lO ln f)).getD (0 + ((i : Int)).toNat) null) = T.getD i [] := fun h => by rw [show 0 + ((i : Int)).toNat = i from by omega]; exact (hT i h).symm
        have el : i < ln → lenL (T.take (i + 1)) = lenL (T.take i) + (T.getD i []).length := fun h => lenL_take T i (by rw [hTl]; exact h)
        have em := lenL_mono T (i + 1)
        have tl := fun h : i < ln => text_len (hr _ (hm i h)) (hi64 _ (hm i h))
        have wn : i < ln → IntKind.i64.wrap (((ln - 1 + lenL (T.take i) : Nat) : Int) + ((textV ((sortV (lO ln f)).getD (0 + ((i : Int)).toNat) null)).length : Int)) = ((ln - 1 + lenL (T.take (i + 1)) : Nat) : Int) := fun h => by
          rw [et h, el h]
          have := tl h
          rw [← hT i h] at this
          rw [wrap_id (by unfold i64; omega)]
          omega
        repeat' (refine BR.mk (fun h => ?_) (fun h => ?_) <;> try contradiction)
        · rename_i h1; simp only [decide_eq_true_eq] at h1
          exact ⟨⟨by omega, by omega⟩, rfl⟩
        · rename_i h1 _; simp only [decide_eq_true_eq] at h1
          exact ⟨by rw [hS]; omega, rfl⟩
        · rename_i h1 _ _; simp only [decide_eq_true_eq] at h1
          rw [show 0 + ((i : Int)).toNat = i from by omega]
          exact hi64 _ (hm i (by omega))
        · rename_i h1 _ _ _; simp only [decide_eq_true_eq] at h1
          have h2 : IntKind.i64.wrap (((ln - 1 + lenL (T.take i) : Nat) : Int) + ((textV ((sortV (lO ln f)).getD (0 + ((i : Int)).toNat) null)).length : Int)) > 65536 := of_decide_eq_true h
          rw [wn (by omega)] at h2
          exfalso; omega
        · rename_i h1 _ _ _ hx; simp only [decide_eq_true_eq] at h1
          exact ⟨rfl, by decide, rfl, by show (i + 1) * 16 ≤ _; omega, by omega, fun j _ => rfl, all1 rfl, all1 rfl⟩
        · rename_i h1 _ _ _ hx; simp only [decide_eq_true_eq] at h1
          have h2 : ¬ IntKind.i64.wrap (((ln - 1 + lenL (T.take i) : Nat) : Int) + ((textV ((sortV (lO ln f)).getD (0 + ((i : Int)).toNat) null)).length : Int)) > 65536 := of_decide_eq_false hx
          rw [wn (by omega)] at h2
          refine Again.fam (i + 1) ⟨by omega, by omega⟩ (by omega) rfl rfl rfl rfl ⟨fun _ => rfl, fun _ => ⟨fun _ => rfl, fun _ => trivial⟩⟩ ?_ ?_
          · repeat' (refine BR.mk (fun _ => ?_) (fun _ => ?_))
            any_goals first | exact trivial | exact Wv.any _ | (refine Wv.int ?_; with_reducible rfl) | (refine Wv.str ?_; with_reducible rfl) | (refine Wv.bool ?_; with_reducible rfl) | refine Wv.int ?_ | refine Wv.str ?_ | refine Wv.bool ?_ | exact Wv.same rfl
            · rw [wrap_id (by unfold i64; omega)]; rfl
            · exact wn (by omega)
            · exact Wv.sl rfl (sF_join T i (by rw [hTl]; omega) _ (et (by omega))) ⟨rfl, Nat.le_of_ble_eq_true rfl⟩
          · repeat' (refine BR.mk (fun _ => ?_) (fun _ => ?_))
            any_goals first | exact trivial | exact Wv.any _ | (refine Wv.int ?_; with_reducible rfl) | (refine Wv.str ?_; with_reducible rfl) | (refine Wv.bool ?_; with_reducible rfl) | refine Wv.int ?_ | refine Wv.str ?_ | refine Wv.bool ?_ | exact Wv.same rfl
            · exact ⟨Nat.le_of_ble_eq_true rfl, .inl ⟨rfl, _, rfl, WvL.same rfl⟩⟩
            · exact ⟨Nat.le_of_ble_eq_true rfl, .inl ⟨rfl, _, rfl, rfl, keep_enc1 _ _ _ _, keep_enc2 _ _ _ _⟩⟩
            · exact ⟨Nat.le_of_ble_eq_true rfl, .inl ⟨rfl, _, rfl, WvL.same rfl⟩⟩
            · exact ⟨Nat.le_of_ble_eq_true rfl, .inl ⟨rfl, _, rfl, arr_same (fun j _ => rfl) fun j _ => rfl⟩⟩
        · rename_i h1; simp only [decide_eq_false_iff_not] at h1
          have : ln = i := by omega
          subst this
          exact ⟨h0, by omega, fun j _ => rfl, by rw [hTO]; have := join_le T; omega⟩
        · rename_i h1; simp only [decide_eq_false_iff_not] at h1
          have : ln = i := by omega
          subst this
          refine Go.Ab.Left.mk (Nat.le_of_ble_eq_true rfl) ⟨[], fun _ _ => rfl, (by refine Wv.tup (.cons (.agg (.cons (.same rfl) (.cons (.same rfl) (.cons (Wv.str ?_) .nil)))) (.cons (.same rfl) .nil)); rw [hTO]), wk_accG name d (accO n hi lo b ln f sn) ln f (lO_len _ _) (lO_get hf) ⟨_, _, _, _, _, _, rfl, rfl, rfl, rfl, rfl, rfl, rfl⟩ rfl ⟨_, rfl, rfl⟩ (Nat.le_of_ble_eq_true rfl) rfl⟩
end

end Go.Proofs.YtejepcnoflahkaaGreatDoor
