/- AggParts: a total of two lists is made of theirs: the walk. -/
import Derived.Test.YtejepcnoflahkaaGreatDoorAOrder
import Derived.Test.YtejepcnoflahkaaGreatDoorAM2
import Derived.Test.YtejepcnoflahkaaGreatDoorVMa
section
namespace Go.Proofs.YtejepcnoflahkaaGreatDoor
open Go Go.Ab
set_option linter.unusedVariables false
set_option linter.unusedSimpArgs false
set_option maxRecDepth 100000
set_option maxHeartbeats 8000000

def sumI (l : List V) : Int := (l.map intV).foldr (· + ·) 0
theorem sumI_app (l m : List V) : sumI (l ++ m) = sumI l + sumI m := by
  unfold sumI
  induction l with
  | nil => simp
  | cons x l ih => simp only [List.cons_append, List.map_cons, List.foldr_cons, ih]; omega
theorem sumI_le : ∀ l : List V, (∀ x ∈ l, i64 (intV x)) → -9223372036854775808 * (l.length : Int) ≤ sumI l ∧ sumI l ≤ 9223372036854775808 * (l.length : Int)
  | [], _ => by simp [sumI]
  | x :: l, h => by
    have ih := sumI_le l fun y hy => h y (by simp [hy])
    have hx := h x (by simp)
    unfold i64 at hx
    have e : sumI (x :: l) = intV x + sumI l := rfl
    rw [e, List.length_cons]
    omega
theorem sum_step (S x : Int) (hx : i64 x) : hiS ((S / 18446744073709551616) % 18446744073709551616) (S % 18446744073709551616) x = ((S + x) / 18446744073709551616) % 18446744073709551616 ∧ loS (S % 18446744073709551616) x = (S + x) % 18446744073709551616 := by
  unfold i64 at hx
  unfold hiS loS
  constructor
  · by_cases h : x < 0
    · rw [if_pos h]; omega
    · rw [if_neg h]; omega
  · omega
theorem sum_rev : ∀ r : List V, (∀ x ∈ r, i64 (intV x)) → sumP r.reverse = ((sumI r.reverse / 18446744073709551616) % 18446744073709551616, sumI r.reverse % 18446744073709551616)
  | [], _ => by decide
  | v :: r, h => by
    have ih := sum_rev r fun y hy => h y (by simp [hy])
    rw [List.reverse_cons]
    have e : sumP (r.reverse ++ [v]) = sumA (sumP r.reverse) v := by unfold sumP; rw [List.foldl_append]; rfl
    have e2 : sumI (r.reverse ++ [v]) = sumI r.reverse + intV v := by rw [sumI_app]; simp [sumI]
    obtain ⟨s1, s2⟩ := sum_step (sumI r.reverse) (intV v) (h v (by simp))
    rw [e, ih, e2]
    unfold sumA
    rw [s1, s2]
theorem sum_is (l : List V) (h : ∀ x ∈ l, i64 (intV x)) : sumP l = ((sumI l / 18446744073709551616) % 18446744073709551616, sumI l % 18446744073709551616) := by
  have := sum_rev l.reverse fun x hx => h x (by simpa using hx)
  rwa [List.reverse_reverse] at this
theorem over_is (S : Int) (h : -1000000000000000000000000000 ≤ S ∧ S ≤ 1000000000000000000000000000) : overS ((S / 18446744073709551616) % 18446744073709551616) (S % 18446744073709551616) = fitR S := by
  unfold overS fitR
  by_cases hi : i64 S
  · rw [if_pos hi]
    unfold i64 at hi
    by_cases h0 : S < 0
    · have e1 : ¬ S % 18446744073709551616 < 9223372036854775808 := by omega
      rw [if_neg e1, if_neg e1, if_pos (by omega), show S % 18446744073709551616 - 18446744073709551616 = S from by omega]
    · have e1 : S % 18446744073709551616 < 9223372036854775808 := by omega
      rw [if_pos e1, if_pos e1, if_pos (by omega), show S % 18446744073709551616 = S from by omega]
  · rw [if_neg hi]
    unfold i64 at hi
    rw [if_neg]
    by_cases e1 : S % 18446744073709551616 < 9223372036854775808
    · rw [if_pos e1]; omega
    · rw [if_neg e1]; omega
/-- a total of all that counts -/
theorem total_is {l : List V} (h : ∀ x ∈ l, okV' x) (hl : l.length ≤ 1000) : ofS sTotal false l = fitR (sumI (live l)) := by
  rw [of_tot (by decide) h (by omega)]
  have hi : ∀ x ∈ live l, i64 (intV x) := fun x hx => aintV_i64 (h x (live_mem hx)).2
  have hb := sumI_le (live l) hi
  have hn := live_len l
  show overS (sumP (live l)).1 (sumP (live l)).2 = _
  rw [sum_is (live l) hi]
  exact over_is _ (by omega)
/-- the best of two lists is the best of theirs -/
theorem best_from {s : Int} (hs : s = 1 ∨ s = -1) : ∀ (l : List V) (b : V), right b = true → (∀ x ∈ l, right x = true) → l.foldl (bstA s) (some b) = match bestP s l with
    | none => some b
    | some c => bstA s (some b) c
  | [], b, _, _ => rfl
  | v :: l, b, hb, hr => by
    have hv := hr v (by simp)
    have hr' : ∀ x ∈ l, right x = true := fun x hx => hr x (by simp [hx])
    have e : bestP s (v :: l) = l.foldl (bstA s) (some v) := rfl
    have hu : ∀ c x, bstA s (some c) x = if 0 < s * compareV x c then some x else some c := fun _ _ => rfl
    rw [e, List.foldl_cons, best_from hs l v hv hr', hu b v]
    have key : ∀ c, right c = true → (if 0 < s * compareV v b then bstA s (some v) c else bstA s (some b) c) = (match bstA s (some v) c with | none => some b | some q => bstA s (some b) q) := fun c hc => by
      have a1 := acv_anti v b
      have a2 := acv_anti c b
      have a3 := acv_anti c v
      have t1 := acv_trans c v b
      have t2 := acv_trans v c b
      have t3 := acv_trans b v c
      have t4 := acv_trans b c v
      have t5 := acv_trans v b c
      have t6 := acv_trans c b v
      rw [hu v c, hu b c]
      by_cases h1 : 0 < s * compareV v b <;> by_cases h2 : 0 < s * compareV c v <;> by_cases h3 : 0 < s * compareV c b
      all_goals simp only [h1, h2, h3, if_true, if_false, hu]
      all_goals first | rfl | (exfalso; rcases hs with rfl | rfl <;> omega)
    by_cases h1 : 0 < s * compareV v b
    · rw [if_pos h1, best_from hs l v hv hr']
      cases hq : bestP s l with
      | none => simp only [hu, if_pos h1]
      | some c =>
        have hc : right c = true := by
          have := best_mem s l c hq
          exact hr' c this
        have := key c hc
        rw [if_pos h1] at this
        exact this
    · rw [if_neg h1, best_from hs l b hb hr']
      cases hq : bestP s l with
      | none => simp only [hu, if_neg h1]
      | some c =>
        have hc : right c = true := hr' c (best_mem s l c hq)
        have := key c hc
        rw [if_neg h1] at this
        exact this
where
  best_mem (s : Int) : ∀ (l : List V) (c : V), bestP s l = some c → c ∈ l := by
    intro l c h
    have h2 : ∀ (l : List V) (b : Option V), l.foldl (bstA s) b = some c → c ∈ l ∨ b = some c := by
      intro l
      induction l with
      | nil => intro b h; exact .inr h
      | cons v l ih =>
        intro b h
        rcases ih _ h with h | h
        · exact .inl (by simp [h])
        · cases b with
          | none => injection h with h; exact .inl (by simp [h])
          | some q =>
            have hu : bstA s (some q) v = if 0 < s * compareV v q then some v else some q := rfl
            rw [hu] at h
            split at h
            · injection h with h; exact .inl (by simp [h])
            · exact .inr h
    rcases h2 l none h with h | h
    · exact h
    · cases h
theorem best_memP {s : Int} {l : List V} {c : V} (h : bestP s l = some c) : c ∈ l := best_from.best_mem s l c h
theorem best_app {s : Int} (hs : s = 1 ∨ s = -1) (l m : List V) (hl : ∀ x ∈ l, right x = true) (hm : ∀ x ∈ m, right x = true) : bestP s (l ++ m) = match bestP s l with
    | none => bestP s m
    | some b => match bestP s m with
      | none => some b
      | some c => bstA s (some b) c := by
  have e : bestP s (l ++ m) = m.foldl (bstA s) (bestP s l) := by unfold bestP; rw [List.foldl_append]
  rw [e]
  cases h : bestP s l with
  | none => rfl
  | some b => exact best_from hs m b (hl b (best_memP h)) hm
theorem live_k {l : List V} {x : V} (h : x ∈ live l) : x.k ≠ 0 := by
  have := (List.mem_filter.1 h).2
  simpa using this
theorem best_pair {s : Int} (hs : s = 1 ∨ s = -1) (l m : List V) (hl : ∀ x ∈ l, okV' x) (hm : ∀ x ∈ m, okV' x) : (bestP s (live (l ++ m))).getD null = (bestP s (live [(bestP s (live l)).getD null, (bestP s (live m)).getD null])).getD null := by
  have e : live (l ++ m) = live l ++ live m := List.filter_append ..
  rw [e, best_app hs _ _ (fun x hx => (hl x (live_mem hx)).1) fun x hx => (hm x (live_mem hx)).1]
  have n0 : null.k = 0 := rfl
  cases h1 : bestP s (live l) with
  | none =>
    cases h2 : bestP s (live m) with
    | none => rfl
    | some c =>
      have hk := live_k (best_memP h2)
      simp only [Option.getD_none, Option.getD_some]
      rw [live_cons, if_pos n0, live_cons, if_neg hk]
      rfl
  | some b =>
    have hk1 := live_k (best_memP h1)
    cases h2 : bestP s (live m) with
    | none =>
      simp only [Option.getD_none, Option.getD_some]
      rw [live_cons, if_neg hk1, live_cons, if_pos n0]
      rfl
    | some c =>
      have hk := live_k (best_memP h2)
      simp only [Option.getD_some]
      rw [live_cons, if_neg hk1, live_cons, if_neg hk]
      rfl
theorem of_min {d : Bool} {l : List V} (h : ∀ x ∈ l, okV' x) (hl : l.length ≤ 1000) : ofS sMin d l = ⟨(bestP (-1) (cntL sMin d l)).getD null, 0⟩ := by
  rw [of_tot (by cases d <;> decide) h (by omega)]; rfl
theorem of_max {d : Bool} {l : List V} (h : ∀ x ∈ l, okV' x) (hl : l.length ≤ 1000) : ofS sMax d l = ⟨(bestP 1 (cntL sMax d l)).getD null, 0⟩ := by
  rw [of_tot (by cases d <;> decide) h (by omega)]; rfl
theorem best_ok {s : Int} {l : List V} (h : ∀ x ∈ l, okV' x) : okV' ((bestP s (live l)).getD null) := by
  cases e : bestP s (live l) with
  | none => exact ⟨by unfold right; decide, by decide⟩
  | some c => exact h c (live_mem (best_memP e))
theorem pair_ok {x y : V} (hx : okV' x) (hy : okV' y) : ∀ z ∈ [x, y], okV' z := fun z hz => by
  rcases List.mem_cons.1 hz with rfl | hz
  · exact hx
  · rw [List.mem_singleton.1 hz]; exact hy
/-- the least one of two lists is that of theirs -/
theorem min_two {l m : List V} (hl : ∀ x ∈ l, okV' x) (hm : ∀ x ∈ m, okV' x) (l1 : l.length ≤ 60) (m1 : m.length ≤ 60) : ofS sMin false (l ++ m) = ofS sMin false [(ofS sMin false l).v, (ofS sMin false m).v] := by
  rw [of_min (l := l) hl (by omega), of_min (l := m) hm (by omega), of_min (l := l ++ m) (fun x hx => by rcases List.mem_append.1 hx with h | h; exact hl x h; exact hm x h) (by rw [List.length_append]; omega)]
  show _ = ofS sMin false [(bestP (-1) (live l)).getD null, (bestP (-1) (live m)).getD null]
  rw [of_min (pair_ok (best_ok hl) (best_ok hm)) (by show 2 ≤ 1000; omega)]
  exact congrArg (fun v => (⟨v, 0⟩ : R)) (best_pair (.inr rfl) l m hl hm)
theorem max_two {l m : List V} (hl : ∀ x ∈ l, okV' x) (hm : ∀ x ∈ m, okV' x) (l1 : l.length ≤ 60) (m1 : m.length ≤ 60) : ofS sMax false (l ++ m) = ofS sMax false [(ofS sMax false l).v, (ofS sMax false m).v] := by
  rw [of_max (l := l) hl (by omega), of_max (l := m) hm (by omega), of_max (l := l ++ m) (fun x hx => by rcases List.mem_append.1 hx with h | h; exact hl x h; exact hm x h) (by rw [List.length_append]; omega)]
  show _ = ofS sMax false [(bestP 1 (live l)).getD null, (bestP 1 (live m)).getD null]
  rw [of_max (pair_ok (best_ok hl) (best_ok hm)) (by show 2 ≤ 1000; omega)]
  exact congrArg (fun v => (⟨v, 0⟩ : R)) (best_pair (.inl rfl) l m hl hm)
/-- counts and totals add up -/
theorem count_is {l : List V} (h : ∀ x ∈ l, okV' x) (hl : l.length ≤ 1000) : ofS sCount false l = ⟨numV (live l).length, 0⟩ := by
  rw [of_tot (by decide) h (by omega)]; rfl
theorem star_is {l : List V} (h : ∀ x ∈ l, okV' x) (hl : l.length ≤ 1000) : ofS sStar false l = ⟨numV l.length, 0⟩ := by
  rw [of_tot (by decide) h (by omega)]; rfl
theorem total_two {l m : List V} (hl : ∀ x ∈ l, okV' x) (hm : ∀ x ∈ m, okV' x) (l1 : l.length ≤ 60) (m1 : m.length ≤ 60) : ofS sTotal false (l ++ m) = fitR (sumI (live l) + sumI (live m)) := by
  rw [total_is (fun x hx => by rcases List.mem_append.1 hx with h | h; exact hl x h; exact hm x h) (by rw [List.length_append]; omega), show live (l ++ m) = live l ++ live m from List.filter_append .., sumI_app]

end Go.Proofs.YtejepcnoflahkaaGreatDoor
end

section
namespace Go.Proofs.YtejepcnoflahkaaGreatDoor
open Go Go.Ab
set_option linter.unusedVariables false
set_option linter.unusedSimpArgs false
set_option maxRecDepth 100000
set_option maxHeartbeats 8000000

noncomputable def EP1 : Env := EE3.add 20 h_Op
theorem EP1_ok : EnvOk Tryz.prog EP1 := Env.add_ok EE3_ok (by kernel_rfl) h_Op_ok
@[reducible] def allE (l m : List V) : List V := lO (0 + l.length + m.length) (joinF (0 + l.length) (joinF 0 (fun _ => AV.any) (vF l)) (vF m))
@[reducible] def lit3 : List (List UInt8) := [[99, 111, 117, 110, 116], [99, 111, 117, 110, 116, 42], [116, 111, 116, 97, 108]]
@[reducible] def lit2 : List (List UInt8) := [[109, 105, 110], [109, 97, 120]]
@[reducible] def nm3 (i : Nat) : List UInt8 := lit3.getD ((i : Int)).toNat []
@[reducible] def nm2 (i : Nat) : List UInt8 := lit2.getD ((i : Int)).toNat []
theorem all_el (l m : List V) (i : Nat) (h : i < 0 + l.length + m.length) : joinF (0 + l.length) (joinF 0 (fun _ => AV.any) (vF l)) (vF m) i = vF (l ++ m) i := by
  unfold vF
  rw [List.getD_eq_getElem?_getD]
  by_cases h1 : i < l.length
  · rw [joinF_lo (by omega), joinF_hi (Nat.zero_le _), List.getElem?_append_left h1, List.getD_eq_getElem?_getD]
    rfl
  · rw [joinF_hi (by omega), List.getElem?_append_right (by omega), List.getD_eq_getElem?_getD, Nat.zero_add]
theorem all_is (l m : List V) : allE l m = l ++ m := by
  have h : 0 + l.length + m.length = (l ++ m).length := by rw [List.length_append]; omega
  have : allE l m = lO (l ++ m).length (vF (l ++ m)) := by
    unfold allE
    rw [← h]
    unfold lO
    refine List.map_congr_left fun i hi => ?_
    rw [all_el l m i (by simpa using hi)]
  rw [this, lO_vF]
theorem all_isV (l m : List V) : ∀ i, i < 0 + l.length + m.length → isV (joinF (0 + l.length) (joinF 0 (fun _ => AV.any) (vF l)) (vF m) i) = true := fun i hi => by
  rw [all_el l m i hi]; rfl
theorem okL_all {l m : List V} (h : OkL l) (h' : OkL m) (hl : l.length ≤ 60) (hm : m.length ≤ 60) : OkL (l ++ m) :=
  ⟨by rw [List.length_append]; omega, fun x hx => by rcases List.mem_append.1 hx with h1 | h1; exact h.2.1 x h1; exact h'.2.1 x h1, fun x hx => by rcases List.mem_append.1 hx with h1 | h1; exact h.2.2 x h1; exact h'.2.2 x h1⟩
theorem op_plus (a b : Int) : opR [43] (numV a) (numV b) = fitR (a + b) := by
  have hr : ∀ n, right (numV n) = true := fun n => by unfold right numV; simp
  have hi : ∀ n, intV (numV n) = n := fun n => by unfold intV numV; simp
  have hk : known [43] = true := by unfold known; decide
  unfold opR
  rw [hr, hr, hk, hi, hi]
  unfold sumsR
  simp [numV]
theorem fit_ok {n : Int} (h : (fitR n).e = 0) : i64 n ∧ (fitR n).v = numV n := by
  unfold fitR at h ⊢
  split at h
  · rename_i hn; rw [if_pos hn]; exact ⟨hn, rfl⟩
  · exact absurd h (by decide)
theorem parts_in {l m : List V} (hv : ∀ x ∈ l, okV' x) (hw : ∀ x ∈ m, okV' x) (hl : l.length ≤ 60) (hm : m.length ≤ 60) {i : Nat} (hi : i < 3) (h1 : (ofS (nm3 i) false l).e = 0) (h2 : (ofS (nm3 i) false m).e = 0) :
    ∃ a b : Int, i64 a ∧ i64 b ∧ (ofS (nm3 i) false l).v = numV a ∧ (ofS (nm3 i) false m).v = numV b ∧ ofS (nm3 i) false (l ++ m) = fitR (a + b) := by
  have hA : ∀ x ∈ l ++ m, okV' x := fun x hx => by rcases List.mem_append.1 hx with h | h; exact hv x h; exact hw x h
  have hlA : (l ++ m).length ≤ 1000 := by rw [List.length_append]; omega
  have nl := live_len l
  have nm := live_len m
  have hi' : i = 0 ∨ i = 1 ∨ i = 2 := by omega
  rcases hi' with rfl | rfl | rfl
  · refine ⟨(live l).length, (live m).length, by unfold i64; omega, by unfold i64; omega, ?_, ?_, ?_⟩
    · exact congrArg R.v (count_is hv (by omega))
    · exact congrArg R.v (count_is hw (by omega))
    · refine (count_is hA hlA).trans ?_
      unfold fitR
      rw [if_pos (by unfold i64; omega), show live (l ++ m) = live l ++ live m from List.filter_append .., List.length_append]
      simp
  · refine ⟨l.length, m.length, by unfold i64; omega, by unfold i64; omega, ?_, ?_, ?_⟩
    · exact congrArg R.v (star_is hv (by omega))
    · exact congrArg R.v (star_is hw (by omega))
    · refine (star_is hA hlA).trans ?_
      unfold fitR
      rw [if_pos (by unfold i64; omega), List.length_append]
      simp
  · have e1 : ofS (nm3 2) false l = fitR (sumI (live l)) := total_is hv (by omega)
    have e2 : ofS (nm3 2) false m = fitR (sumI (live m)) := total_is hw (by omega)
    rw [e1] at h1 ⊢
    rw [e2] at h2 ⊢
    obtain ⟨a1, a2⟩ := fit_ok h1
    obtain ⟨b1, b2⟩ := fit_ok h2
    exact ⟨_, _, a1, b1, a2, b2, total_two hv hw hl hm⟩
theorem parts_best {l m : List V} (hv : ∀ x ∈ l, okV' x) (hw : ∀ x ∈ m, okV' x) (hl : l.length ≤ 60) (hm : m.length ≤ 60) {i : Nat} (hi : i < 2) :
    (∀ k : List V, (∀ x ∈ k, okV' x) → k.length ≤ 1000 → (ofS (nm2 i) false k).e = 0 ∧ okV' (ofS (nm2 i) false k).v) ∧ ofS (nm2 i) false (l ++ m) = ofS (nm2 i) false [(ofS (nm2 i) false l).v, (ofS (nm2 i) false m).v] := by
  have hi' : i = 0 ∨ i = 1 := by omega
  rcases hi' with rfl | rfl
  · refine ⟨fun k hk hkl => ?_, min_two hv hw hl hm⟩
    have e : ofS (nm2 0) false k = ⟨(bestP (-1) (live k)).getD null, 0⟩ := of_min hk hkl
    rw [e]
    exact ⟨rfl, best_ok hk⟩
  · refine ⟨fun k hk hkl => ?_, max_two hv hw hl hm⟩
    have e : ofS (nm2 1) false k = ⟨(bestP 1 (live k)).getD null, 0⟩ := of_max hk hkl
    rw [e]
    exact ⟨rfl, best_ok hk⟩
@[reducible] def opX (l : List V) (i : Nat) : V := ⟨(ofS (nm3 i) false (lO l.length (vF l))).v.k, (ofS (nm3 i) false (lO l.length (vF l))).v.n, (ofS (nm3 i) false (lO l.length (vF l))).v.s⟩
theorem opX_is (l : List V) (i : Nat) : opX l i = (ofS (nm3 i) false l).v := by unfold opX; rw [lO_vF]
@[reducible] def opY (l : List V) (i : Nat) : V := ⟨(ofS (nm2 i) false (lO l.length (vF l))).v.k, (ofS (nm2 i) false (lO l.length (vF l))).v.n, (ofS (nm2 i) false (lO l.length (vF l))).v.s⟩
theorem opY_is (l : List V) (i : Nat) : opY l i = (ofS (nm2 i) false l).v := by unfold opY; rw [lO_vF]
@[reducible] def twoV (fs : List (Nat × Nat × Bool)) (x y : V) : Nat → AV := elemA (TD.struct fs).agg 3 [.int .u8 x.k, .int .i64 x.n, .str x.s, .int .u8 y.k, .int .i64 y.n, .str y.s]
theorem twoV_is (fs) (x y : V) : lO 2 (twoV fs x y) = [x, y] := rfl
theorem twoV_ok (fs) (x y : V) : ∀ i, i < 2 → isV (twoV fs x y i) = true := fun i hi => by
  have : i = 0 ∨ i = 1 := by omega
  rcases this with rfl | rfl <;> rfl
theorem ne_beq {x : Int} : ((x != 0) = false) ↔ x = 0 := by simp
theorem nm3_known : ∀ i, i < 3 → Ab.known (AV.str (nm3 i)) = true := fun _ _ => rfl
set_option smartUnfolding false in
theorem pc_AggParts (l m : List V) (hl : l.length ≤ 9223372036854775807) (hi : ∀ x ∈ l, i64 x.n) (hm : m.length ≤ 9223372036854775807) (hj : ∀ x ∈ m, i64 x.n) : PC Tryz.prog GV 4 [.sl .no l.length (vF l), .sl .no m.length (vF m)] (.bool true) := by
  refine pc_fin EP1_ok mixed (show Tryz.prog.funcs[4]? = some Tryz.f4 from rfl) ?_
  by_cases hR : rightL l = true
  · obtain ⟨ho, hv, hl60⟩ := right_ok hR hi
    have k1 : (!rightL (lO l.length (vF l))) = false := by rw [lO_vF, hR]; rfl
    by_cases hS : rightL m = true
    · obtain ⟨ho2, hv2, hm60⟩ := right_ok hS hj
      have k2 : (!rightL (lO m.length (vF m))) = false := by rw [lO_vF, hS]; rfl
      have dl : (∀ i, i < l.length → isV (vF l i) = true) ∧ OkL (lO l.length (vF l)) := ⟨fun _ _ => rfl, by rw [lO_vF]; exact ho⟩
      have dm : (∀ i, i < m.length → isV (vF m i) = true) ∧ OkL (lO m.length (vF m)) := ⟨fun _ _ => rfl, by rw [lO_vF]; exact ho2⟩
      have da : (∀ i, i < 0 + l.length + m.length → isV (joinF (0 + l.length) (joinF 0 (fun _ => AV.any) (vF l)) (vF m) i) = true) ∧ OkL (allE l m) := ⟨all_isV l m, by rw [all_is]; exact okL_all ho ho2 hl60 hm60⟩
      repeat' (refine BR.mk (fun h => ?_) (fun h => ?_) <;> first | with_reducible exact Bool.noConfusion h | with_reducible exact Bool.noConfusion (k1.symm.trans h) | with_reducible exact Bool.noConfusion (k2.symm.trans h) | skip)
      · exact ⟨fun _ _ => rfl, hl⟩
      · exact ⟨fun _ _ => rfl, hm⟩
      · exact ⟨Nat.le_of_ble_eq_true rfl, rfl, by show (0 + l.length) * 32 ≤ _; omega, by show 0 + l.length ≤ _; omega, fun _ h => absurd h (Nat.not_lt_zero _), fun _ _ => rfl, fun _ _ => rfl⟩
      · exact ⟨rfl, Nat.le_of_ble_eq_true rfl, rfl, by show (0 + l.length + m.length) * 32 ≤ _; omega, by show 0 + l.length + m.length ≤ _; omega, fun q _ => by rw [joinF_hi (Nat.zero_le _)]; rfl, fun _ _ => rfl, fun _ _ => rfl⟩
      refine loop_fam EP1_ok mixed (σ := Nat) (fun i => i ≤ 3) (fun i => 3 - i) 0 (Nat.zero_le _) 0 1 [0, 1, 5, 40, 41] (fun i => [(42, .int .i64 i)]) [] (fun _ => []) (fun _ => [(0, 0 + l.length + m.length, 34)]) ?_ ?_ ?_ ?_
      · rfl
      · rfl
      · refine Wk.mk' rfl rfl ⟨fun _ => rfl, fun _ => trivial⟩ ?_ trivial
        repeat' (refine BR.mk (fun _ => ?_) (fun _ => ?_))
        any_goals first | exact trivial | exact Wv.any _ | (refine Wv.int ?_; with_reducible rfl) | (refine Wv.str ?_; with_reducible rfl) | (refine Wv.bool ?_; with_reducible rfl) | refine Wv.int ?_ | refine Wv.str ?_ | refine Wv.bool ?_ | exact Wv.same rfl
        all_goals rfl
      · intro i hi3
        by_cases hil : i < 3
        · have k3 : decide ((i : Int) < ((3 : Nat) : Int)) = true := decide_eq_true (by omega)
          by_cases e1 : (ofS (nm3 i) false l).e = 0
          · by_cases e2 : (ofS (nm3 i) false m).e = 0
            · obtain ⟨a, b, ha, hb, hva, hvb, hab⟩ := parts_in hv hv2 hl60 hm60 hil e1 e2
              have f1 : ((ofS (nm3 i) false (lO l.length (vF l))).e != 0) = false := by rw [lO_vF]; exact ne_beq.2 e1
              have f2 : ((ofS (nm3 i) false (lO m.length (vF m))).e != 0) = false := by rw [lO_vF]; exact ne_beq.2 e2
              have dop : (i64 (opX l i).n ∧ (opX l i).s.length ≤ 9223372036854775807) ∧ i64 (opX m i).n ∧ (opX m i).s.length ≤ 9223372036854775807 := by
                rw [opX_is, opX_is, hva, hvb]
                exact ⟨⟨ha, Nat.zero_le _⟩, hb, Nat.zero_le _⟩
              have hop : opR [43] (opX l i) (opX m i) = ofS (nm3 i) false (allE l m) := by
                rw [opX_is, opX_is, hva, hvb, all_is, hab, op_plus]
              have f3 : (!sameV (opR [43] (opX l i) (opX m i)).v (ofS (nm3 i) false (allE l m)).v) = false := by rw [same_v (congrArg R.v hop)]; rfl
              have f4 : (!(((ofS (nm3 i) false (allE l m)).e == 0) == ((opR [43] (opX l i) (opX m i)).e == 0))) = false := by rw [hop]; simp
              repeat' (refine BR.mk (fun h => ?_) (fun h => ?_) <;> first | with_reducible exact Bool.noConfusion h | with_reducible exact Bool.noConfusion (k3.symm.trans h) | with_reducible exact Bool.noConfusion (f1.symm.trans h) | with_reducible exact Bool.noConfusion (f2.symm.trans h) | with_reducible exact Bool.noConfusion (f3.symm.trans h) | with_reducible exact Bool.noConfusion (f4.symm.trans h) | skip)
              · exact ⟨⟨by omega, by omega⟩, rfl, rfl⟩
              · exact dl
              · exact dm
              · exact da
              · exact dop
              · refine Again.fam (i + 1) hil (by show 3 - (i + 1) < 3 - i; omega) rfl rfl rfl rfl ⟨fun _ => rfl, fun _ => trivial⟩ ?_ trivial
                repeat' (refine BR.mk (fun _ => ?_) (fun _ => ?_))
                any_goals first | exact trivial | exact Wv.any _ | (refine Wv.int ?_; with_reducible rfl) | (refine Wv.str ?_; with_reducible rfl) | (refine Wv.bool ?_; with_reducible rfl) | refine Wv.int ?_ | refine Wv.str ?_ | refine Wv.bool ?_ | exact Wv.same rfl
                rw [wrap_id (by unfold i64; omega)]; rfl
            · have f1 : ((ofS (nm3 i) false (lO l.length (vF l))).e != 0) = false := by rw [lO_vF]; exact ne_beq.2 e1
              have f2 : ((ofS (nm3 i) false (lO m.length (vF m))).e != 0) = true := by rw [lO_vF]; simpa using e2
              repeat' (refine BR.mk (fun h => ?_) (fun h => ?_) <;> first | with_reducible exact Bool.noConfusion h | with_reducible exact Bool.noConfusion (k3.symm.trans h) | with_reducible exact Bool.noConfusion (f1.symm.trans h) | with_reducible exact Bool.noConfusion (f2.symm.trans h) | skip)
              · exact ⟨⟨by omega, by omega⟩, rfl, rfl⟩
              · exact dl
              · exact dm
              · exact da
              · refine Again.fam (i + 1) hil (by show 3 - (i + 1) < 3 - i; omega) rfl rfl rfl rfl ⟨fun _ => rfl, fun _ => trivial⟩ ?_ trivial
                repeat' (refine BR.mk (fun _ => ?_) (fun _ => ?_))
                any_goals first | exact trivial | exact Wv.any _ | (refine Wv.int ?_; with_reducible rfl) | (refine Wv.str ?_; with_reducible rfl) | (refine Wv.bool ?_; with_reducible rfl) | refine Wv.int ?_ | refine Wv.str ?_ | refine Wv.bool ?_ | exact Wv.same rfl
                rw [wrap_id (by unfold i64; omega)]; rfl
          · have f1 : ((ofS (nm3 i) false (lO l.length (vF l))).e != 0) = true := by rw [lO_vF]; simpa using e1
            repeat' (refine BR.mk (fun h => ?_) (fun h => ?_) <;> first | with_reducible exact Bool.noConfusion h | with_reducible exact Bool.noConfusion (k3.symm.trans h) | with_reducible exact Bool.noConfusion (f1.symm.trans h) | skip)
            · exact ⟨⟨by omega, by omega⟩, rfl, rfl⟩
            · exact dl
            · exact dm
            · exact da
            · refine Again.fam (i + 1) hil (by show 3 - (i + 1) < 3 - i; omega) rfl rfl rfl rfl ⟨fun _ => rfl, fun _ => trivial⟩ ?_ trivial
              repeat' (refine BR.mk (fun _ => ?_) (fun _ => ?_))
              any_goals first | exact trivial | exact Wv.any _ | (refine Wv.int ?_; with_reducible rfl) | (refine Wv.str ?_; with_reducible rfl) | (refine Wv.bool ?_; with_reducible rfl) | refine Wv.int ?_ | refine Wv.str ?_ | refine Wv.bool ?_ | exact Wv.same rfl
              rw [wrap_id (by unfold i64; omega)]; rfl
        · have k3 : decide ((i : Int) < ((3 : Nat) : Int)) = false := decide_eq_false (by omega)
          repeat' (refine BR.mk (fun h => ?_) (fun h => ?_) <;> first | with_reducible exact Bool.noConfusion h | with_reducible exact Bool.noConfusion (k3.symm.trans h) | skip)
          refine loop_fam EP1_ok mixed (σ := Nat) (fun i => i ≤ 2) (fun i => 2 - i) 0 (Nat.zero_le _) 0 1 [0, 1, 5, 87, 88] (fun i => [(89, .int .i64 i)]) [] (fun _ => []) (fun _ => [(0, 0 + l.length + m.length, 34)]) ?_ ?_ ?_ ?_
          · rfl
          · rfl
          · refine Wk.mk' rfl rfl ⟨fun _ => rfl, fun _ => trivial⟩ ?_ trivial
            repeat' (refine BR.mk (fun _ => ?_) (fun _ => ?_))
            any_goals first | exact trivial | exact Wv.any _ | (refine Wv.int ?_; with_reducible rfl) | (refine Wv.str ?_; with_reducible rfl) | (refine Wv.bool ?_; with_reducible rfl) | refine Wv.int ?_ | refine Wv.str ?_ | refine Wv.bool ?_ | exact Wv.same rfl
            all_goals rfl
          · intro i hi2
            by_cases hil2 : i < 2
            · have k4 : decide ((i : Int) < ((2 : Nat) : Int)) = true := decide_eq_true (by omega)
              obtain ⟨pb, pw⟩ := parts_best hv hv2 hl60 hm60 hil2
              have hA : ∀ x ∈ l ++ m, okV' x := fun x hx => by rcases List.mem_append.1 hx with h | h; exact hv x h; exact hv2 x h
              obtain ⟨g1, y1⟩ := pb l hv (by omega)
              obtain ⟨g2, y2⟩ := pb m hv2 (by omega)
              obtain ⟨g3, y3⟩ := pb (l ++ m) hA (by rw [List.length_append]; omega)
              obtain ⟨g4, y4⟩ := pb _ (pair_ok y1 y2) (by show 2 ≤ 1000; omega)
              have f1 : ((ofS (nm2 i) false (lO l.length (vF l))).e != 0) = false := by rw [lO_vF]; exact ne_beq.2 g1
              have f2 : ((ofS (nm2 i) false (lO m.length (vF m))).e != 0) = false := by rw [lO_vF]; exact ne_beq.2 g2
              have f3 : ((ofS (nm2 i) false (allE l m)).e != 0) = false := by rw [all_is]; exact ne_beq.2 g3
              have f4 : ∀ fs, ((ofS (nm2 i) false (lO 2 (twoV fs (opY l i) (opY m i)))).e != 0) = false := fun fs => by rw [twoV_is, opY_is, opY_is]; exact ne_beq.2 g4
              have f5 : ∀ fs, (!sameV (ofS (nm2 i) false (allE l m)).v (ofS (nm2 i) false (lO 2 (twoV fs (opY l i) (opY m i)))).v) = false := fun fs => by
                rw [twoV_is, opY_is, opY_is, all_is, same_v (congrArg R.v pw)]; rfl
              have dW : ∀ fs, OkL (lO 2 (twoV fs (opY l i) (opY m i))) := fun fs => by
                rw [twoV_is, opY_is, opY_is]
                exact ⟨by show 2 ≤ 1000; omega, fun x hx => (pair_ok y1 y2 x hx).1, fun x hx => (pair_ok y1 y2 x hx).2⟩
              repeat' (refine BR.mk (fun h => ?_) (fun h => ?_) <;> first | with_reducible exact Bool.noConfusion h | with_reducible exact Bool.noConfusion (k4.symm.trans h) | with_reducible exact Bool.noConfusion (f1.symm.trans h) | with_reducible exact Bool.noConfusion (f2.symm.trans h) | with_reducible exact Bool.noConfusion (f3.symm.trans h) | with_reducible exact Bool.noConfusion ((f4 _).symm.trans h) | with_reducible exact Bool.noConfusion ((f5 _).symm.trans h) | skip)
              · exact ⟨⟨by omega, by omega⟩, rfl, rfl⟩
              · exact dl
              · exact dm
              · exact da
              · exact ⟨twoV_ok _ (opY l i) (opY m i), dW _⟩
              · refine Again.fam (i + 1) hil2 (by show 2 - (i + 1) < 2 - i; omega) rfl rfl rfl rfl ⟨fun _ => rfl, fun _ => trivial⟩ ?_ trivial
                repeat' (refine BR.mk (fun _ => ?_) (fun _ => ?_))
                any_goals first | exact trivial | exact Wv.any _ | (refine Wv.int ?_; with_reducible rfl) | (refine Wv.str ?_; with_reducible rfl) | (refine Wv.bool ?_; with_reducible rfl) | refine Wv.int ?_ | refine Wv.str ?_ | refine Wv.bool ?_ | exact Wv.same rfl
                rw [wrap_id (by unfold i64; omega)]; rfl
            · have k4 : decide ((i : Int) < ((2 : Nat) : Int)) = false := decide_eq_false (by omega)
              repeat' (refine BR.mk (fun h => ?_) (fun h => ?_) <;> first | with_reducible exact Bool.noConfusion h | with_reducible exact Bool.noConfusion (k4.symm.trans h) | skip)
              exact Fini.mk rfl
    · have k2 : (!rightL (lO m.length (vF m))) = true := by rw [lO_vF]; simpa using hS
      repeat' (refine BR.mk (fun h => ?_) (fun h => ?_) <;> first | with_reducible exact Bool.noConfusion h | with_reducible exact Bool.noConfusion (k1.symm.trans h) | with_reducible exact Bool.noConfusion (k2.symm.trans h) | skip)
      · exact ⟨fun _ _ => rfl, hl⟩
      · exact ⟨fun _ _ => rfl, hm⟩
      · exact Fini.mk rfl
  · have k1 : (!rightL (lO l.length (vF l))) = true := by rw [lO_vF]; simpa using hR
    repeat' (refine BR.mk (fun h => ?_) (fun h => ?_) <;> first | with_reducible exact Bool.noConfusion h | with_reducible exact Bool.noConfusion (k1.symm.trans h) | skip)
    · exact ⟨fun _ _ => rfl, hl⟩
    · exact Fini.mk rfl

end Go.Proofs.YtejepcnoflahkaaGreatDoor
end
