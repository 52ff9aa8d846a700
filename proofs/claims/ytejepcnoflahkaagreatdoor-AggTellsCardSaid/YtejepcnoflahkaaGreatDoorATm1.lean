/- The reference of values: Int; sums of the reference of totals. -/
import Derived.Test.YtejepcnoflahkaaGreatDoorAOrder
import Derived.Test.YtejepcnoflahkaaGreatDoorAM2
import Derived.Test.YtejepcnoflahkaaGreatDoorVWalk5
import Derived.Lib.ItoaLen
section
namespace Go.Proofs.YtejepcnoflahkaaGreatDoor
open Go Go.Ab
set_option linter.unusedVariables false
set_option linter.unusedSimpArgs false
set_option maxRecDepth 100000
set_option maxHeartbeats 8000000

def sumI (l : List V) : Int := (l.map intV).foldr (· + ·) 0
theorem sumI_app (l m : List V) : sumI (l ++ m) = sumI l + sumI m := by
  unfold sumI
  induction l with
  | nil => simp
  | cons x l ih => simp only [List.cons_append, List.map_cons, List.foldr_cons, ih]; omega
theorem sumI_le : ∀ l : List V, (∀ x ∈ l, i64 (intV x)) → -9223372036854775808 * (l.length : Int) ≤ sumI l ∧ sumI l ≤ 9223372036854775808 * (l.length : Int)
  | [], _ => by simp [sumI]
  | x :: l, h => by
    have ih := sumI_le l fun y hy => h y (by simp [hy])
    have hx := h x (by simp)
    unfold i64 at hx
    have e : sumI (x :: l) = intV x + sumI l := rfl
    rw [e, List.length_cons]
    omega
theorem sum_step (S x : Int) (hx : i64 x) : hiS ((S / 18446744073709551616) % 18446744073709551616) (S % 18446744073709551616) x = ((S + x) / 18446744073709551616) % 18446744073709551616 ∧ loS (S % 18446744073709551616) x = (S + x) % 18446744073709551616 := by
  unfold i64 at hx
  unfold hiS loS
  constructor
  · by_cases h : x < 0
    · rw [if_pos h]; omega
    · rw [if_neg h]; omega
  · omega
theorem sum_rev : ∀ r : List V, (∀ x ∈ r, i64 (intV x)) → sumP r.reverse = ((sumI r.reverse / 18446744073709551616) % 18446744073709551616, sumI r.reverse % 18446744073709551616)
  | [], _ => by decide
  | v :: r, h => by
    have ih := sum_rev r fun y hy => h y (by simp [hy])
    rw [List.reverse_cons]
    have e : sumP (r.reverse ++ [v]) = sumA (sumP r.reverse) v := by unfold sumP; rw [List.foldl_append]; rfl
    have e2 : sumI (r.reverse ++ [v]) = sumI r.reverse + intV v := by rw [sumI_app]; simp [sumI]
    obtain ⟨s1, s2⟩ := sum_step (sumI r.reverse) (intV v) (h v (by simp))
    rw [e, ih, e2]
    unfold sumA
    rw [s1, s2]
theorem sum_is (l : List V) (h : ∀ x ∈ l, i64 (intV x)) : sumP l = ((sumI l / 18446744073709551616) % 18446744073709551616, sumI l % 18446744073709551616) := by
  have := sum_rev l.reverse fun x hx => h x (by simpa using hx)
  rwa [List.reverse_reverse] at this
theorem over_is (S : Int) (h : -1000000000000000000000000000 ≤ S ∧ S ≤ 1000000000000000000000000000) : overS ((S / 18446744073709551616) % 18446744073709551616) (S % 18446744073709551616) = fitR S := by
  unfold overS fitR
  by_cases hi : i64 S
  · rw [if_pos hi]
    unfold i64 at hi
    by_cases h0 : S < 0
    · have e1 : ¬ S % 18446744073709551616 < 9223372036854775808 := by omega
      rw [if_neg e1, if_neg e1, if_pos (by omega), show S % 18446744073709551616 - 18446744073709551616 = S from by omega]
    · have e1 : S % 18446744073709551616 < 9223372036854775808 := by omega
      rw [if_pos e1, if_pos e1, if_pos (by omega), show S % 18446744073709551616 = S from by omega]
  · rw [if_neg hi]
    unfold i64 at hi
    rw [if_neg]
    by_cases e1 : S % 18446744073709551616 < 9223372036854775808
    · rw [if_pos e1]; omega
    · rw [if_neg e1]; omega
/-- a total of all that counts -/
theorem total_is {l : List V} (h : ∀ x ∈ l, okV' x) (hl : l.length ≤ 1000) : ofS sTotal false l = fitR (sumI (live l)) := by
  rw [of_tot (by decide) h (by omega)]
  have hi : ∀ x ∈ live l, i64 (intV x) := fun x hx => aintV_i64 (h x (live_mem hx)).2
  have hb := sumI_le (live l) hi
  have hn := live_len l
  show overS (sumP (live l)).1 (sumP (live l)).2 = _
  rw [sum_is (live l) hi]
  exact over_is _ (by omega)
/-- the best of two lists is the best of theirs -/
theorem best_from {s : Int} (hs : s = 1 ∨ s = -1) : ∀ (l : List V) (b : V), right b = true → (∀ x ∈ l, right x = true) → l.foldl (bstA s) (some b) = match bestP s l with
    | none => some b
    | some c => bstA s (some b) c
  | [], b, _, _ => rfl
  | v :: l, b, hb, hr => by
    have hv := hr v (by simp)
    have hr' : ∀ x ∈ l, right x = true := fun x hx => hr x (by simp [hx])
    have e : bestP s (v :: l) = l.foldl (bstA s) (some v) := rfl
    have hu : ∀ c x, bstA s (some c) x = if 0 < s * compareV x c then some x else some c := fun _ _ => rfl
    rw [e, List.foldl_cons, best_from hs l v hv hr', hu b v]
    have key : ∀ c, right c = true → (if 0 < s * compareV v b then bstA s (some v) c else bstA s (some b) c) = (match bstA s (some v) c with | none => some b | some q => bstA s (some b) q) := fun c hc => by
      have a1 := acv_anti v b
      have a2 := acv_anti c b
      have a3 := acv_anti c v
      have t1 := acv_trans c v b
      have t2 := acv_trans v c b
      have t3 := acv_trans b v c
      have t4 := acv_trans b c v
      have t5 := acv_trans v b c
      have t6 := acv_trans c b v
      rw [hu v c, hu b c]
      by_cases h1 : 0 < s * compareV v b <;> by_cases h2 : 0 < s * compareV c v <;> by_cases h3 : 0 < s * compareV c b
      all_goals simp only [h1, h2, h3, if_true, if_false, hu]
      all_goals first | rfl | (exfalso; rcases hs with rfl | rfl <;> omega)
    by_cases h1 : 0 < s * compareV v b
    · rw [if_pos h1, best_from hs l v hv hr']
      cases hq : bestP s l with
      | none => simp only [hu, if_pos h1]
      | some c =>
        have hc : right c = true := by
          have := best_mem s l c hq
          exact hr' c this
        have := key c hc
        rw [if_pos h1] at this
        exact this
    · rw [if_neg h1, best_from hs l b hb hr']
      cases hq : bestP s l with
      | none => simp only [hu, if_neg h1]
      | some c =>
        have hc : right c = true := hr' c (best_mem s l c hq)
        have := key c hc
        rw [if_neg h1] at this
        exact this
where
  best_mem (s : Int) : ∀ (l : List V) (c : V), bestP s l = some c → c ∈ l := by
    intro l c h
    have h2 : ∀ (l : List V) (b : Option V), l.foldl (bstA s) b = some c → c ∈ l ∨ b = some c := by
      intro l
      induction l with
      | nil => intro b h; exact .inr h
      | cons v l ih =>
        intro b h
        rcases ih _ h with h | h
        · exact .inl (by simp [h])
        · cases b with
          | none => injection h with h; exact .inl (by simp [h])
          | some q =>
            have hu : bstA s (some q) v = if 0 < s * compareV v q then some v else some q := rfl
            rw [hu] at h
            split at h
            · injection h with h; exact .inl (by simp [h])
            · exact .inr h
    rcases h2 l none h with h | h
    · exact h
    · cases h
theorem best_memP {s : Int} {l : List V} {c : V} (h : bestP s l = some c) : c ∈ l := best_from.best_mem s l c h
theorem best_app {s : Int} (hs : s = 1 ∨ s = -1) (l m : List V) (hl : ∀ x ∈ l, right x = true) (hm : ∀ x ∈ m, right x = true) : bestP s (l ++ m) = match bestP s l with
    | none => bestP s m
    | some b => match bestP s m with
      | none => some b
      | some c => bstA s (some b) c := by
  have e : bestP s (l ++ m) = m.foldl (bstA s) (bestP s l) := by unfold bestP; rw [List.foldl_append]
  rw [e]
  cases h : bestP s l with
  | none => rfl
  | some b => exact best_from hs m b (hl b (best_memP h)) hm
theorem live_k {l : List V} {x : V} (h : x ∈ live l) : x.k ≠ 0 := by
  have := (List.mem_filter.1 h).2
  simpa using this
theorem best_pair {s : Int} (hs : s = 1 ∨ s = -1) (l m : List V) (hl : ∀ x ∈ l, okV' x) (hm : ∀ x ∈ m, okV' x) : (bestP s (live (l ++ m))).getD null = (bestP s (live [(bestP s (live l)).getD null, (bestP s (live m)).getD null])).getD null := by
  have e : live (l ++ m) = live l ++ live m := List.filter_append ..
  rw [e, best_app hs _ _ (fun x hx => (hl x (live_mem hx)).1) fun x hx => (hm x (live_mem hx)).1]
  have n0 : null.k = 0 := rfl
  cases h1 : bestP s (live l) with
  | none =>
    cases h2 : bestP s (live m) with
    | none => rfl
    | some c =>
      have hk := live_k (best_memP h2)
      simp only [Option.getD_none, Option.getD_some]
      rw [live_cons, if_pos n0, live_cons, if_neg hk]
      rfl
  | some b =>
    have hk1 := live_k (best_memP h1)
    cases h2 : bestP s (live m) with
    | none =>
      simp only [Option.getD_none, Option.getD_some]
      rw [live_cons, if_neg hk1, live_cons, if_pos n0]
      rfl
    | some c =>
      have hk := live_k (best_memP h2)
      simp only [Option.getD_some]
      rw [live_cons, if_neg hk1, live_cons, if_neg hk]
      rfl
theorem of_min {d : Bool} {l : List V} (h : ∀ x ∈ l, okV' x) (hl : l.length ≤ 1000) : ofS sMin d l = ⟨(bestP (-1) (cntL sMin d l)).getD null, 0⟩ := by
  rw [of_tot (by cases d <;> decide) h (by omega)]; rfl
theorem of_max {d : Bool} {l : List V} (h : ∀ x ∈ l, okV' x) (hl : l.length ≤ 1000) : ofS sMax d l = ⟨(bestP 1 (cntL sMax d l)).getD null, 0⟩ := by
  rw [of_tot (by cases d <;> decide) h (by omega)]; rfl
theorem best_ok {s : Int} {l : List V} (h : ∀ x ∈ l, okV' x) : okV' ((bestP s (live l)).getD null) := by
  cases e : bestP s (live l) with
  | none => exact ⟨by unfold right; decide, by decide⟩
  | some c => exact h c (live_mem (best_memP e))
theorem pair_ok {x y : V} (hx : okV' x) (hy : okV' y) : ∀ z ∈ [x, y], okV' z := fun z hz => by
  rcases List.mem_cons.1 hz with rfl | hz
  · exact hx
  · rw [List.mem_singleton.1 hz]; exact hy
/-- the least one of two lists is that of theirs -/
theorem min_two {l m : List V} (hl : ∀ x ∈ l, okV' x) (hm : ∀ x ∈ m, okV' x) (l1 : l.length ≤ 60) (m1 : m.length ≤ 60) : ofS sMin false (l ++ m) = ofS sMin false [(ofS sMin false l).v, (ofS sMin false m).v] := by
  rw [of_min (l := l) hl (by omega), of_min (l := m) hm (by omega), of_min (l := l ++ m) (fun x hx => by rcases List.mem_append.1 hx with h | h; exact hl x h; exact hm x h) (by rw [List.length_append]; omega)]
  show _ = ofS sMin false [(bestP (-1) (live l)).getD null, (bestP (-1) (live m)).getD null]
  rw [of_min (pair_ok (best_ok hl) (best_ok hm)) (by show 2 ≤ 1000; omega)]
  exact congrArg (fun v => (⟨v, 0⟩ : R)) (best_pair (.inr rfl) l m hl hm)
theorem max_two {l m : List V} (hl : ∀ x ∈ l, okV' x) (hm : ∀ x ∈ m, okV' x) (l1 : l.length ≤ 60) (m1 : m.length ≤ 60) : ofS sMax false (l ++ m) = ofS sMax false [(ofS sMax false l).v, (ofS sMax false m).v] := by
  rw [of_max (l := l) hl (by omega), of_max (l := m) hm (by omega), of_max (l := l ++ m) (fun x hx => by rcases List.mem_append.1 hx with h | h; exact hl x h; exact hm x h) (by rw [List.length_append]; omega)]
  show _ = ofS sMax false [(bestP 1 (live l)).getD null, (bestP 1 (live m)).getD null]
  rw [of_max (pair_ok (best_ok hl) (best_ok hm)) (by show 2 ≤ 1000; omega)]
  exact congrArg (fun v => (⟨v, 0⟩ : R)) (best_pair (.inl rfl) l m hl hm)
/-- counts and totals add up -/
theorem count_is {l : List V} (h : ∀ x ∈ l, okV' x) (hl : l.length ≤ 1000) : ofS sCount false l = ⟨numV (live l).length, 0⟩ := by
  rw [of_tot (by decide) h (by omega)]; rfl
theorem star_is {l : List V} (h : ∀ x ∈ l, okV' x) (hl : l.length ≤ 1000) : ofS sStar false l = ⟨numV l.length, 0⟩ := by
  rw [of_tot (by decide) h (by omega)]; rfl
theorem total_two {l m : List V} (hl : ∀ x ∈ l, okV' x) (hm : ∀ x ∈ m, okV' x) (l1 : l.length ≤ 60) (m1 : m.length ≤ 60) : ofS sTotal false (l ++ m) = fitR (sumI (live l) + sumI (live m)) := by
  rw [total_is (fun x hx => by rcases List.mem_append.1 hx with h | h; exact hl x h; exact hm x h) (by rw [List.length_append]; omega), show live (l ++ m) = live l ++ live m from List.filter_append .., sumI_app]

end Go.Proofs.YtejepcnoflahkaaGreatDoor
end

section
namespace Go.Proofs.YtejepcnoflahkaaGreatDoor
open Go Go.Ab
set_option linter.unusedVariables false
set_option linter.unusedSimpArgs false
set_option maxRecDepth 100000
set_option maxHeartbeats 8000000

theorem get_drop {s : List UInt8} {i : Nat} (h : i < s.length) : s.drop i = s.getD i 0 :: s.drop (i + 1) := by
  rw [List.drop_eq_getElem_cons h, List.getD_eq_getElem?_getD, List.getElem?_eq_getElem h]; rfl
@[reducible] def bA (s : List UInt8) (i : Int) : Int := ((s.getD i.toNat 0).toNat : Int)
theorem bA_is (s : List UInt8) (i : Nat) : bA s (i : Int) = ((s.getD i 0).toNat : Int) := by unfold bA; rw [Int.toNat_natCast]
theorem cb_step {a b : List UInt8} {i : Nat} (ha : i < a.length) (hb : i < b.length) : Lib.compareBytes (a.drop i) (b.drop i) = if (a.getD i 0).toNat < (b.getD i 0).toNat then -1 else if (b.getD i 0).toNat < (a.getD i 0).toNat then 1 else Lib.compareBytes (a.drop (i + 1)) (b.drop (i + 1)) := by
  rw [get_drop ha, get_drop hb]
  simp only [Lib.compareBytes, UInt8.lt_iff_toNat_lt]
theorem cb_end {a b : List UInt8} {i : Nat} (ha : i ≤ a.length) (hb : i ≤ b.length) (h : i = a.length ∨ i = b.length) : Lib.compareBytes (a.drop i) (b.drop i) = if a.length < b.length then -1 else if b.length < a.length then 1 else 0 := by
  by_cases h1 : i = a.length
  · rw [List.drop_of_length_le (by omega)]
    by_cases h2 : i = b.length
    · rw [List.drop_of_length_le (by omega), if_neg (by omega), if_neg (by omega)]; rfl
    · rw [get_drop (by omega), if_pos (by omega)]; rfl
  · have h2 : i = b.length := h.resolve_left h1
    rw [List.drop_of_length_le (l := b) (by omega), get_drop (by omega), if_neg (by omega), if_pos (by omega)]; rfl
set_option smartUnfolding false in
theorem pc_rbytes (a b : List UInt8) (hn : a.length ≤ 9223372036854775807 ∧ b.length ≤ 9223372036854775807) : PC Tryz.prog GV 126 [.str a, .str b] (.int .i64 (Lib.compareBytes a b)) := by
  refine pc_fin EE3_ok mixed (show Tryz.prog.funcs[126]? = some Tryz.f126 from rfl) ?_
  refine loop_fam EE3_ok mixed (σ := Nat) (fun i => i ≤ a.length ∧ i ≤ b.length ∧ Lib.compareBytes a b = Lib.compareBytes (a.drop i) (b.drop i)) (fun i => a.length - i) 0 ⟨Nat.zero_le _, Nat.zero_le _, rfl⟩ 0 0 [0, 1] (fun i => [(5, .int .i64 i)]) [] (fun _ => []) (fun _ => []) ?_ ?_ ?_ ?_
  · rfl
  · rfl
  · refine Wk.mk' rfl rfl trivial ?_ trivial
    repeat' (refine BR.mk (fun _ => ?_) (fun _ => ?_))
    any_goals first | exact trivial | exact Wv.any _ | (refine Wv.int ?_; with_reducible rfl) | (refine Wv.str ?_; with_reducible rfl) | (refine Wv.bool ?_; with_reducible rfl) | refine Wv.int ?_ | refine Wv.str ?_ | refine Wv.bool ?_ | exact Wv.same rfl
    all_goals rfl
  · rintro i ⟨ha, hb, hf⟩
    by_cases hi : i < a.length ∧ i < b.length
    · obtain ⟨h1, h2⟩ := hi
      have k1 : decide ((i : Int) < (a.length : Int)) = true := decide_eq_true (by omega)
      have k2 : decide ((i : Int) < (b.length : Int)) = true := decide_eq_true (by omega)
      have z1 : (0 : Int) ≤ (i : Int) ∧ (i : Int) < (a.length : Int) := ⟨by omega, by omega⟩
      have z2 : (0 : Int) ≤ (i : Int) ∧ (i : Int) < (b.length : Int) := ⟨by omega, by omega⟩
      have w1 : IntKind.i64.wrap ((i : Int) + 1) = ((i + 1 : Nat) : Int) := (wrap_id (by unfold i64; omega)).trans (by omega)
      have hs := cb_step h1 h2
      by_cases l1 : (a.getD i 0).toNat < (b.getD i 0).toNat
      · have k3 : decide (bA a (i : Int) < bA b (i : Int)) = true := by rw [bA_is, bA_is]; exact decide_eq_true (by omega)
        have e : Lib.compareBytes a b = -1 := by rw [hf, hs, if_pos l1]
        rw [e]
        repeat' (refine BR.mk (fun h => ?_) (fun h => ?_) <;> first | with_reducible exact Bool.noConfusion h | with_reducible exact Bool.noConfusion (k1.symm.trans h) | with_reducible exact Bool.noConfusion (k2.symm.trans h) | with_reducible exact Bool.noConfusion (k3.symm.trans h) | skip)
        all_goals first | with_reducible exact z1 | with_reducible exact z2 | exact (show commutes _ _ = true by kernel_rfl) | exact Fini.mk rfl
      · have k3 : decide (bA a (i : Int) < bA b (i : Int)) = false := by rw [bA_is, bA_is]; exact decide_eq_false (by omega)
        by_cases l2 : (b.getD i 0).toNat < (a.getD i 0).toNat
        · have k4 : decide (bA a (i : Int) > bA b (i : Int)) = true := by rw [bA_is, bA_is]; exact decide_eq_true (by omega)
          have e : Lib.compareBytes a b = 1 := by rw [hf, hs, if_neg l1, if_pos l2]
          rw [e]
          repeat' (refine BR.mk (fun h => ?_) (fun h => ?_) <;> first | with_reducible exact Bool.noConfusion h | with_reducible exact Bool.noConfusion (k1.symm.trans h) | with_reducible exact Bool.noConfusion (k2.symm.trans h) | with_reducible exact Bool.noConfusion (k3.symm.trans h) | with_reducible exact Bool.noConfusion (k4.symm.trans h) | skip)
          all_goals first | with_reducible exact z1 | with_reducible exact z2 | exact (show commutes _ _ = true by kernel_rfl) | exact Fini.mk rfl
        · have k4 : decide (bA a (i : Int) > bA b (i : Int)) = false := by rw [bA_is, bA_is]; exact decide_eq_false (by omega)
          repeat' (refine BR.mk (fun h => ?_) (fun h => ?_) <;> first | with_reducible exact Bool.noConfusion h | with_reducible exact Bool.noConfusion (k1.symm.trans h) | with_reducible exact Bool.noConfusion (k2.symm.trans h) | with_reducible exact Bool.noConfusion (k3.symm.trans h) | with_reducible exact Bool.noConfusion (k4.symm.trans h) | skip)
          all_goals first | with_reducible exact z1 | with_reducible exact z2 | exact (show commutes _ _ = true by kernel_rfl) | skip
          refine Again.fam (i + 1) ⟨h1, h2, by rw [hf, hs, if_neg l1, if_neg l2]⟩ (by show a.length - (i + 1) < a.length - i; omega) rfl rfl rfl rfl trivial ?_ trivial
          repeat' (refine BR.mk (fun _ => ?_) (fun _ => ?_))
          any_goals first | exact trivial | exact Wv.any _ | (refine Wv.int ?_; with_reducible rfl) | (refine Wv.str ?_; with_reducible rfl) | (refine Wv.bool ?_; with_reducible rfl) | refine Wv.int ?_ | refine Wv.str ?_ | refine Wv.bool ?_ | exact Wv.same rfl
          exact w1
    · have hd : decide ((i : Int) < (a.length : Int)) = true → decide ((i : Int) < (b.length : Int)) = true → False := fun x y => hi ⟨by have := of_decide_eq_true x; omega, by have := of_decide_eq_true y; omega⟩
      have he := cb_end ha hb (by omega)
      by_cases l1 : a.length < b.length
      · have k3 : decide ((a.length : Int) < (b.length : Int)) = true := decide_eq_true (by omega)
        have e : Lib.compareBytes a b = -1 := by rw [hf, he, if_pos l1]
        rw [e]
        repeat' (refine BR.mk (fun h => ?_) (fun h => ?_) <;> first | with_reducible exact Bool.noConfusion h | with_reducible exact (hd (by assumption) h).elim | with_reducible exact Bool.noConfusion (k3.symm.trans h) | skip)
        all_goals exact Fini.mk rfl
      · have k3 : decide ((a.length : Int) < (b.length : Int)) = false := decide_eq_false (by omega)
        by_cases l2 : b.length < a.length
        · have k4 : decide ((a.length : Int) > (b.length : Int)) = true := decide_eq_true (by omega)
          have e : Lib.compareBytes a b = 1 := by rw [hf, he, if_neg l1, if_pos l2]
          rw [e]
          repeat' (refine BR.mk (fun h => ?_) (fun h => ?_) <;> first | with_reducible exact Bool.noConfusion h | with_reducible exact (hd (by assumption) h).elim | with_reducible exact Bool.noConfusion (k3.symm.trans h) | with_reducible exact Bool.noConfusion (k4.symm.trans h) | skip)
          all_goals exact Fini.mk rfl
        · have k4 : decide ((a.length : Int) > (b.length : Int)) = false := decide_eq_false (by omega)
          have e : Lib.compareBytes a b = 0 := by rw [hf, he, if_neg l1, if_neg l2]
          rw [e]
          repeat' (refine BR.mk (fun h => ?_) (fun h => ?_) <;> first | with_reducible exact Bool.noConfusion h | with_reducible exact (hd (by assumption) h).elim | with_reducible exact Bool.noConfusion (k3.symm.trans h) | with_reducible exact Bool.noConfusion (k4.symm.trans h) | skip)
          all_goals exact Fini.mk rfl
def h_rbytes : List AV → CR
  | [.str a, .str b] => .need (a.length ≤ 9223372036854775807 ∧ b.length ≤ 9223372036854775807) (.int .i64 (Lib.compareBytes a b))
  | _ => .no
theorem h_rbytes_ok (xs : List AV) : CRok Tryz.prog GV 126 xs (h_rbytes xs) := by
  unfold h_rbytes
  split
  · rename_i a b
    exact fun hn => pc_rbytes a b hn
  · trivial
noncomputable def ET1 : Env := EE3.add 126 h_rbytes
theorem ET1_ok : EnvOk Tryz.prog ET1 := Env.add_ok EE3_ok (by kernel_rfl) h_rbytes_ok
theorem pc_rcmp (a b : V) (hn : a.s.length ≤ 9223372036854775807 ∧ b.s.length ≤ 9223372036854775807) : PC Tryz.prog GV 64 [encV a, encV b] (.int .i64 (compareV a b)) := by
  refine pc_fin ET1_ok mixed (show Tryz.prog.funcs[64]? = some Tryz.f64 from rfl) ?_
  obtain ⟨ak, an, az⟩ := a
  obtain ⟨bk, bn, bz⟩ := b
  repeat' (refine BR.mk (fun h => ?_) (fun h => ?_) <;> try contradiction)
  all_goals first | exact hn | refine Fini.mk (congrArg (AV.int .i64) ?_)
  all_goals unfold compareV cmpI
  all_goals simp only [decide_eq_true_eq, decide_eq_false_iff_not, beq_iff_eq, beq_eq_false_iff_ne, ne_eq] at *
  all_goals (repeat' split)
  all_goals first | rfl | omega | (exfalso; omega) | skip
def h_rcmp : List AV → CR
  | [.agg [.int .u8 ak, .int .i64 an, .str az], .agg [.int .u8 bk, .int .i64 bn, .str bz]] => .need (az.length ≤ 9223372036854775807 ∧ bz.length ≤ 9223372036854775807) (.int .i64 (compareV ⟨ak, an, az⟩ ⟨bk, bn, bz⟩))
  | _ => .no
theorem h_rcmp_ok (xs : List AV) : CRok Tryz.prog GV 64 xs (h_rcmp xs) := by
  unfold h_rcmp
  split
  · rename_i ak an az bk bn bz
    exact fun hn => pc_rcmp ⟨ak, an, az⟩ ⟨bk, bn, bz⟩ hn
  · trivial
noncomputable def ET2 : Env := ET1.add 64 h_rcmp
theorem ET2_ok : EnvOk Tryz.prog ET2 := Env.add_ok ET1_ok (by kernel_rfl) h_rcmp_ok
theorem dd_step (u : Nat) : Lib.decDigits u = (if u / 10 = 0 then [] else Lib.decDigits (u / 10)) ++ [UInt8.ofNat (48 + u % 10)] := by
  rw [Lib.decDigits]
  split
  · rw [if_pos (by omega), Nat.mod_eq_of_lt (by omega)]; rfl
  · rw [if_neg (by omega)]
@[reducible] def d10 : List UInt8 := [48, 49, 50, 51, 52, 53, 54, 55, 56, 57]
@[reducible] def dgE (u : Int) : List UInt8 := List.take ((IntKind.u64.wrap (u.tmod 10 + 1)).toNat - (u.tmod 10).toNat) (List.drop (u.tmod 10).toNat d10)
theorem u64w {n : Int} (h : 0 ≤ n ∧ n ≤ 18446744073709551615) : IntKind.u64.wrap n = n := by
  simp [IntKind.wrap, IntKind.signed, IntKind.bits]
  omega
theorem dg_is (u : Nat) : dgE (u : Int) = [UInt8.ofNat (48 + u % 10)] := by
  have e : ((u : Int)).tmod 10 = ((u % 10 : Nat) : Int) := by rw [Int.tmod_eq_emod_of_nonneg (by omega)]; rfl
  unfold dgE
  rw [e, u64w ⟨by omega, by omega⟩]
  have : ∀ n : Fin 10, List.take ((((n.val : Nat) : Int) + 1).toNat - (((n.val : Nat) : Int)).toNat) (List.drop (((n.val : Nat) : Int)).toNat d10) = [UInt8.ofNat (48 + n.val)] := by decide +kernel
  exact this ⟨u % 10, by omega⟩
theorem dg_rng (u : Nat) : ((0 : Int) ≤ IntKind.u64.wrap (((u : Int)).tmod 10 + 1) ∧ IntKind.u64.wrap (((u : Int)).tmod 10 + 1) ≤ ((10 : Nat) : Int)) ∧ (0 : Int) ≤ ((u : Int)).tmod 10 ∧ ((u : Int)).tmod 10 ≤ IntKind.u64.wrap (((u : Int)).tmod 10 + 1) := by
  have e : ((u : Int)).tmod 10 = ((u % 10 : Nat) : Int) := by rw [Int.tmod_eq_emod_of_nonneg (by omega)]; rfl
  rw [e, u64w ⟨by omega, by omega⟩]
  exact ⟨⟨by omega, by omega⟩, by omega, by omega⟩
/-- how great a number is, as the code has it -/
@[reducible] def absE (n : Int) : Int := if n < 0 then IntKind.u64.wrap (0 - IntKind.u64.wrap n) else IntKind.u64.wrap n
theorem absE_is {n : Int} (h : i64 n) : (¬ n < 0 → IntKind.u64.wrap n = ((n.natAbs : Nat) : Int)) ∧ (n < 0 → IntKind.u64.wrap (0 - IntKind.u64.wrap n) = ((n.natAbs : Nat) : Int)) := by
  unfold i64 at h
  constructor
  · intro h0
    rw [u64w ⟨by omega, by omega⟩]; omega
  · intro h0
    have : IntKind.u64.wrap n = n + 18446744073709551616 := by
      simp [IntKind.wrap, IntKind.signed, IntKind.bits]; omega
    rw [this]
    have : IntKind.u64.wrap (0 - (n + 18446744073709551616)) = -n := by
      simp [IntKind.wrap, IntKind.signed, IntKind.bits]; omega
    rw [this]; omega
theorem tdiv10 (u : Nat) : IntKind.u64.wrap (((u : Int)).tdiv 10) = ((u / 10 : Nat) : Int) ∨ 18446744073709551615 < u := by
  by_cases h : u ≤ 18446744073709551615
  · left
    rw [Int.tdiv_eq_ediv_of_nonneg (by omega), u64w ⟨by omega, by omega⟩]; rfl
  · right; omega
theorem itoa_abs (n : Int) : Lib.itoa n = if n < 0 then 45 :: Lib.decDigits n.natAbs else Lib.decDigits n.natAbs := by
  unfold Lib.itoa
  split
  · rfl
  · rw [show n.toNat = n.natAbs from by omega]
section
set_option smartUnfolding false
theorem pc_rdec (n : Int) (hn : i64 n) : PC Tryz.prog GV 127 [.int .i64 n] (.str (Lib.itoa n)) := by
  have hb : n.natAbs ≤ 9223372036854775808 := by unfold i64 at hn; omega
  obtain ⟨a1, a2⟩ := absE_is hn
  refine pc_fin ET2_ok mixed (show Tryz.prog.funcs[127]? = some Tryz.f127 from rfl) ?_
  by_cases h0 : n < 0
  · have k1 : decide (n < 0) = true := decide_eq_true h0
    have e0 := a2 h0
    have r1 := dg_rng n.natAbs
    rw [← e0] at r1
    have e1 : dgE (IntKind.u64.wrap (0 - IntKind.u64.wrap n)) = [UInt8.ofNat (48 + n.natAbs % 10)] := by rw [e0]; exact dg_is _
    have e2 : IntKind.u64.wrap ((IntKind.u64.wrap (0 - IntKind.u64.wrap n)).tdiv 10) = ((n.natAbs / 10 : Nat) : Int) := by rw [e0]; exact (tdiv10 _).resolve_right (by omega)
    repeat' (refine BR.mk (fun h => ?_) (fun h => ?_) <;> first | with_reducible exact Bool.noConfusion h | with_reducible exact Bool.noConfusion (k1.symm.trans h) | skip)
    · exact (show (10 : Int) ≠ 0 by decide)
    · exact (show (10 : Int) ≠ 0 by decide)
    · exact r1
    · exact (show (10 : Int) ≠ 0 by decide)
    refine loop_fam ET2_ok mixed (σ := Nat × List UInt8) (fun p => p.1 ≤ 9223372036854775808 ∧ Lib.decDigits n.natAbs = (if p.1 = 0 then [] else Lib.decDigits p.1) ++ p.2) (fun p => p.1) (n.natAbs / 10, [UInt8.ofNat (48 + n.natAbs % 10)]) ⟨by show n.natAbs / 10 ≤ _; omega, dd_step _⟩ 0 0 [0] (fun p => [(3, .int .u64 p.1), (4, .str p.2)]) [] (fun _ => []) (fun _ => []) ?_ ?_ ?_ ?_
    · rfl
    · rfl
    · refine Wk.mk' rfl rfl trivial ?_ trivial
      repeat' (refine BR.mk (fun _ => ?_) (fun _ => ?_))
      any_goals first | exact trivial | exact Wv.any _ | (refine Wv.int ?_; with_reducible rfl) | (refine Wv.str ?_; with_reducible rfl) | (refine Wv.bool ?_; with_reducible rfl) | refine Wv.int ?_ | refine Wv.str ?_ | refine Wv.bool ?_ | exact Wv.same rfl
      · exact e2
      · exact e1
    · rintro ⟨u, o⟩ ⟨hu, hd⟩
      simp only at hu hd
      have ol : o.length ≤ 20 := by
        have h1 := congrArg List.length hd
        rw [Lib.decDigits_length, List.length_append] at h1
        have := Lib.nDigits_le20 n.natAbs (by omega)
        omega
      by_cases hu0 : u = 0
      · have k2 : decide ((u : Int) > 0) = false := decide_eq_false (by omega)
        have eo : Lib.decDigits n.natAbs = o := by rw [hd, if_pos hu0]; rfl
        repeat' (refine BR.mk (fun h => ?_) (fun h => ?_) <;> first | with_reducible exact Bool.noConfusion h | with_reducible exact Bool.noConfusion (k1.symm.trans h) | with_reducible exact Bool.noConfusion (k2.symm.trans h) | skip)
        · show 1 + o.length ≤ _
          omega
        · refine Fini.mk (congrArg AV.str ?_)
          rw [itoa_abs, if_pos h0, eo]; rfl
      · have k2 : decide ((u : Int) > 0) = true := decide_eq_true (by omega)
        repeat' (refine BR.mk (fun h => ?_) (fun h => ?_) <;> first | with_reducible exact Bool.noConfusion h | with_reducible exact Bool.noConfusion (k2.symm.trans h) | skip)
        · exact (show (10 : Int) ≠ 0 by decide)
        · exact (show (10 : Int) ≠ 0 by decide)
        · exact dg_rng u
        · show (dgE (u : Int)).length + o.length ≤ _
          rw [dg_is]
          show 1 + o.length ≤ _
          omega
        · exact (show (10 : Int) ≠ 0 by decide)
        · refine Again.fam (u / 10, UInt8.ofNat (48 + u % 10) :: o) ⟨by show u / 10 ≤ _; omega, ?_⟩ (by show u / 10 < u; omega) rfl rfl rfl rfl trivial ?_ trivial
          · show _ = (if u / 10 = 0 then [] else Lib.decDigits (u / 10)) ++ (UInt8.ofNat (48 + u % 10) :: o)
            rw [hd, if_neg hu0, dd_step u]
            simp
          · repeat' (refine BR.mk (fun _ => ?_) (fun _ => ?_))
            any_goals first | exact trivial | exact Wv.any _ | (refine Wv.int ?_; with_reducible rfl) | (refine Wv.str ?_; with_reducible rfl) | (refine Wv.bool ?_; with_reducible rfl) | refine Wv.int ?_ | refine Wv.str ?_ | refine Wv.bool ?_ | exact Wv.same rfl
            · exact (tdiv10 u).resolve_right (by omega)
            · show dgE (u : Int) ++ o = UInt8.ofNat (48 + u % 10) :: o
              rw [dg_is]; rfl
  · have k1 : decide (n < 0) = false := decide_eq_false h0
    have e0 := a1 h0
    have r1 := dg_rng n.natAbs
    rw [← e0] at r1
    have e1 : dgE (IntKind.u64.wrap n) = [UInt8.ofNat (48 + n.natAbs % 10)] := by rw [e0]; exact dg_is _
    have e2 : IntKind.u64.wrap ((IntKind.u64.wrap n).tdiv 10) = ((n.natAbs / 10 : Nat) : Int) := by rw [e0]; exact (tdiv10 _).resolve_right (by omega)
    repeat' (refine BR.mk (fun h => ?_) (fun h => ?_) <;> first | with_reducible exact Bool.noConfusion h | with_reducible exact Bool.noConfusion (k1.symm.trans h) | skip)
    · exact (show (10 : Int) ≠ 0 by decide)
    · exact (show (10 : Int) ≠ 0 by decide)
    · exact r1
    · exact (show (10 : Int) ≠ 0 by decide)
    refine loop_fam ET2_ok mixed (σ := Nat × List UInt8) (fun p => p.1 ≤ 9223372036854775808 ∧ Lib.decDigits n.natAbs = (if p.1 = 0 then [] else Lib.decDigits p.1) ++ p.2) (fun p => p.1) (n.natAbs / 10, [UInt8.ofNat (48 + n.natAbs % 10)]) ⟨by show n.natAbs / 10 ≤ _; omega, dd_step _⟩ 0 0 [0] (fun p => [(3, .int .u64 p.1), (4, .str p.2)]) [] (fun _ => []) (fun _ => []) ?_ ?_ ?_ ?_
    · rfl
    · rfl
    · refine Wk.mk' rfl rfl trivial ?_ trivial
      repeat' (refine BR.mk (fun _ => ?_) (fun _ => ?_))
      any_goals first | exact trivial | exact Wv.any _ | (refine Wv.int ?_; with_reducible rfl) | (refine Wv.str ?_; with_reducible rfl) | (refine Wv.bool ?_; with_reducible rfl) | refine Wv.int ?_ | refine Wv.str ?_ | refine Wv.bool ?_ | exact Wv.same rfl
      · exact e2
      · exact e1
    · rintro ⟨u, o⟩ ⟨hu, hd⟩
      simp only at hu hd
      have ol : o.length ≤ 20 := by
        have h1 := congrArg List.length hd
        rw [Lib.decDigits_length, List.length_append] at h1
        have := Lib.nDigits_le20 n.natAbs (by omega)
        omega
      by_cases hu0 : u = 0
      · have k2 : decide ((u : Int) > 0) = false := decide_eq_false (by omega)
        have eo : Lib.decDigits n.natAbs = o := by rw [hd, if_pos hu0]; rfl
        repeat' (refine BR.mk (fun h => ?_) (fun h => ?_) <;> first | with_reducible exact Bool.noConfusion h | with_reducible exact Bool.noConfusion (k1.symm.trans h) | with_reducible exact Bool.noConfusion (k2.symm.trans h) | skip)
        · refine Fini.mk (congrArg AV.str ?_)
          rw [itoa_abs, if_neg h0, eo]
      · have k2 : decide ((u : Int) > 0) = true := decide_eq_true (by omega)
        repeat' (refine BR.mk (fun h => ?_) (fun h => ?_) <;> first | with_reducible exact Bool.noConfusion h | with_reducible exact Bool.noConfusion (k2.symm.trans h) | skip)
        · exact (show (10 : Int) ≠ 0 by decide)
        · exact (show (10 : Int) ≠ 0 by decide)
        · exact dg_rng u
        · show (dgE (u : Int)).length + o.length ≤ _
          rw [dg_is]
          show 1 + o.length ≤ _
          omega
        · exact (show (10 : Int) ≠ 0 by decide)
        · refine Again.fam (u / 10, UInt8.ofNat (48 + u % 10) :: o) ⟨by show u / 10 ≤ _; omega, ?_⟩ (by show u / 10 < u; omega) rfl rfl rfl rfl trivial ?_ trivial
          · show _ = (if u / 10 = 0 then [] else Lib.decDigits (u / 10)) ++ (UInt8.ofNat (48 + u % 10) :: o)
            rw [hd, if_neg hu0, dd_step u]
            simp
          · repeat' (refine BR.mk (fun _ => ?_) (fun _ => ?_))
            any_goals first | exact trivial | exact Wv.any _ | (refine Wv.int ?_; with_reducible rfl) | (refine Wv.str ?_; with_reducible rfl) | (refine Wv.bool ?_; with_reducible rfl) | refine Wv.int ?_ | refine Wv.str ?_ | refine Wv.bool ?_ | exact Wv.same rfl
            · exact (tdiv10 u).resolve_right (by omega)
            · show dgE (u : Int) ++ o = UInt8.ofNat (48 + u % 10) :: o
              rw [dg_is]; rfl
end
def h_rdec : List AV → CR
  | [.int .i64 n] => .need (i64 n) (.str (Lib.itoa n))
  | _ => .no
theorem h_rdec_ok (xs : List AV) : CRok Tryz.prog GV 127 xs (h_rdec xs) := by
  unfold h_rdec
  split
  · rename_i n
    exact fun hn => pc_rdec n hn
  · trivial
noncomputable def ET3 : Env := ET2.add 127 h_rdec
theorem ET3_ok : EnvOk Tryz.prog ET3 := Env.add_ok ET2_ok (by kernel_rfl) h_rdec_ok
theorem pc_rtext (a : V) (hn : i64 a.n) : PC Tryz.prog GV 65 [encV a] (.str (textV a)) := by
  refine pc_fin ET3_ok mixed (show Tryz.prog.funcs[65]? = some Tryz.f65 from rfl) ?_
  obtain ⟨ak, an, az⟩ := a
  repeat' (refine BR.mk (fun h => ?_) (fun h => ?_) <;> try contradiction)
  all_goals first | exact hn | refine Fini.mk (congrArg AV.str ?_)
  all_goals unfold textV
  all_goals simp only [beq_iff_eq, beq_eq_false_iff_ne, ne_eq] at *
  all_goals (repeat' split)
  all_goals first | rfl | omega | (exfalso; omega) | skip
def h_rtext : List AV → CR
  | [.agg [.int .u8 ak, .int .i64 an, .str az]] => .need (i64 an) (.str (textV ⟨ak, an, az⟩))
  | _ => .no
theorem h_rtext_ok (xs : List AV) : CRok Tryz.prog GV 65 xs (h_rtext xs) := by
  unfold h_rtext
  split
  · rename_i ak an az
    exact fun hn => pc_rtext ⟨ak, an, az⟩ hn
  · trivial
noncomputable def ET4 : Env := ET3.add 65 h_rtext
theorem ET4_ok : EnvOk Tryz.prog ET4 := Env.add_ok ET3_ok (by kernel_rfl) h_rtext_ok

end Go.Proofs.YtejepcnoflahkaaGreatDoor
end

section
namespace Go.Proofs.YtejepcnoflahkaaGreatDoor
open Go Go.Ab
set_option linter.unusedVariables false
set_option linter.unusedSimpArgs false
set_option maxRecDepth 100000
set_option maxHeartbeats 8000000

theorem blank_at (b : UInt8) : blank b = ((((b.toNat : Nat) : Int) == 32) || (decide (((b.toNat : Nat) : Int) ≥ 9) && decide (((b.toNat : Nat) : Int) ≤ 13))) := by
  have : ∀ n : Fin 256, blank (UInt8.ofNat n.val) = ((((n.val : Nat) : Int) == 32) || (decide (((n.val : Nat) : Int) ≥ 9) && decide (((n.val : Nat) : Int) ≤ 13))) := by decide +kernel
  have := this ⟨b.toNat, b.toNat_lt⟩
  simpa using this
theorem dw_at {s : List UInt8} {i : Nat} (h : i < s.length) : (s.drop i).dropWhile blank = if blank (s.getD i 0) then (s.drop (i + 1)).dropWhile blank else s.drop i := by
  rw [get_drop h, List.dropWhile_cons]
theorem trim_is (s : List UInt8) : trimL s = s.dropWhile blank := by unfold trimL; rfl
theorem digs_at {s : List UInt8} {j m : Nat} (h : j < s.length) : digs m (s.drop j) = if 48 ≤ (s.getD j 0).toNat ∧ (s.getD j 0).toNat ≤ 57 then (if m > (9223372036854775808 - ((s.getD j 0).toNat - 48)) / 10 then 9223372036854775808 else digs (10 * m + ((s.getD j 0).toNat - 48)) (s.drop (j + 1))) else m := by
  rw [get_drop h]; rfl
theorem digs_nil {s : List UInt8} {j m : Nat} (h : s.length ≤ j) : digs m (s.drop j) = m := by rw [List.drop_of_length_le h]; rfl
theorem pre_at {s : List UInt8} {i : Nat} (c : UInt8) (h : i < s.length) : Lib.hasPrefix (s.drop i) [c] = (s.getD i 0 == c) := by
  rw [get_drop h]
  show (c == s.getD i 0 && true) = _
  rw [Bool.and_true, Bool.eq_iff_iff, beq_iff_eq, beq_iff_eq]
  exact eq_comm
theorem pre_nil {s : List UInt8} {i : Nat} (c : UInt8) (h : s.length ≤ i) : Lib.hasPrefix (s.drop i) [c] = false := by
  rw [List.drop_of_length_le h]; rfl
@[reducible] def dE (s : List UInt8) (j : Int) : Int := IntKind.i64.wrap (IntKind.u8.wrap (bA s j - 48))
@[reducible] def ovI (s : List UInt8) (j : Int) : Int := IntKind.i64.wrap ((IntKind.i64.wrap (-9223372036854775808 + dE s j)).tdiv 10)
theorem ovI_all : ∀ d : Fin 10, IntKind.i64.wrap ((IntKind.i64.wrap (-9223372036854775808 + IntKind.i64.wrap (IntKind.u8.wrap (((48 + d.val : Nat) : Int) - 48)))).tdiv 10) = -(((9223372036854775808 - d.val) / 10 : Nat) : Int) := by decide +kernel
theorem dE_is {s : List UInt8} {j : Nat} (h : 48 ≤ (s.getD j 0).toNat ∧ (s.getD j 0).toNat ≤ 57) : dE s (j : Int) = (((s.getD j 0).toNat - 48 : Nat) : Int) := by
  have : ∀ d : Fin 10, IntKind.i64.wrap (IntKind.u8.wrap (((48 + d.val : Nat) : Int) - 48)) = ((d.val : Nat) : Int) := by decide +kernel
  have := this ⟨(s.getD j 0).toNat - 48, by omega⟩
  simp only [show 48 + ((s.getD j 0).toNat - 48) = (s.getD j 0).toNat from by omega] at this
  unfold dE
  rw [bA_is]
  exact this
theorem ovI_is {s : List UInt8} {j : Nat} (h : 48 ≤ (s.getD j 0).toNat ∧ (s.getD j 0).toNat ≤ 57) : ovI s (j : Int) = -(((9223372036854775808 - ((s.getD j 0).toNat - 48)) / 10 : Nat) : Int) := by
  have := ovI_all ⟨(s.getD j 0).toNat - 48, by omega⟩
  simp only [show 48 + ((s.getD j 0).toNat - 48) = (s.getD j 0).toNat from by omega] at this
  unfold ovI dE
  rw [bA_is]
  exact this
/-- what a number is, of its digits -/
def ofD (mi : Bool) (D : Nat) : Int := if mi then -(D : Int) else if D > 9223372036854775807 then 9223372036854775807 else D
theorem ofD_least {m : Nat} (h : (-(m : Int) == -9223372036854775808) = true) : 9223372036854775807 = ofD false m := by
  have := eq_of_beq h
  unfold ofD
  rw [if_neg (by decide), if_pos (by omega)]
theorem ofD_else {m : Nat} (h : (-(m : Int) == -9223372036854775808) = false) (hm : m ≤ 9223372036854775808) : IntKind.i64.wrap (0 - -(m : Int)) = ofD false m := by
  have h' : ¬ -(m : Int) = -9223372036854775808 := fun e => by rw [e] at h; cases h
  unfold ofD
  rw [if_neg (by decide), if_neg (by omega)]
  exact (wrap_id (by unfold i64; omega)).trans (by omega)
theorem sign_m {s : List UInt8} {i : Nat} (p : Lib.hasPrefix (s.drop i) [45] = true) : numS (s.drop i) = ofD true (digs 0 (s.drop (i + 1))) := by
  have e : signed (s.drop i) = s.drop (i + 1) := by
    unfold signed
    rw [p]
    show (if (true || _) = true then _ else _) = _
    rw [Bool.true_or, if_pos rfl, List.drop_drop]
  unfold numS
  rw [p, e]; rfl
theorem sign_p {s : List UInt8} {i : Nat} (p : Lib.hasPrefix (s.drop i) [45] = false) (p2 : Lib.hasPrefix (s.drop i) [43] = true) : numS (s.drop i) = ofD false (digs 0 (s.drop (i + 1))) := by
  have e : signed (s.drop i) = s.drop (i + 1) := by
    unfold signed
    rw [p, p2, Bool.false_or, if_pos rfl, List.drop_drop]
  unfold numS
  rw [p, e]; rfl
theorem sign_n {s : List UInt8} {i : Nat} (p : Lib.hasPrefix (s.drop i) [45] = false) (p2 : Lib.hasPrefix (s.drop i) [43] = false) : numS (s.drop i) = ofD false (digs 0 (s.drop i)) := by
  have e : signed (s.drop i) = s.drop i := by
    unfold signed
    rw [p, p2, Bool.false_or, if_neg (by decide)]
  unfold numS
  rw [p, e]; rfl
section
set_option smartUnfolding false
theorem rint_txt (k n : Int) (s : List UInt8) (h1 : k ≠ 1) (h0 : k ≠ 0) (hs : s.length ≤ 1000000) : PC Tryz.prog GV 125 [encV ⟨k, n, s⟩] (.int .i64 (numS (s.dropWhile blank))) := by
  have k1 : (k == 1) = false := by simpa using h1
  have k0 : (k == 0) = false := by simpa using h0
  refine pc_fin ET4_ok mixed (show Tryz.prog.funcs[125]? = some Tryz.f125 from rfl) ?_
  repeat' (refine BR.mk (fun h => ?_) (fun h => ?_) <;> first | with_reducible exact Bool.noConfusion h | with_reducible exact Bool.noConfusion (k1.symm.trans h) | with_reducible exact Bool.noConfusion (k0.symm.trans h) | skip)
  refine loop_fam ET4_ok mixed (σ := Nat) (fun i => i ≤ s.length ∧ s.dropWhile blank = (s.drop i).dropWhile blank) (fun i => s.length - i) 0 ⟨Nat.zero_le _, rfl⟩ 1 0 [1] (fun i => [(3, .int .i64 i)]) [] (fun _ => [(0, .cells [.int .u8 k, .int .i64 n, .str s])]) (fun _ => []) ?_ ?_ ?_ ?_
  · rfl
  · rfl
  · refine Wk.mk' rfl rfl trivial ?_ ?_
    · repeat' (refine BR.mk (fun _ => ?_) (fun _ => ?_))
      any_goals first | exact trivial | exact Wv.any _ | (refine Wv.int ?_; with_reducible rfl) | (refine Wv.str ?_; with_reducible rfl) | (refine Wv.bool ?_; with_reducible rfl) | refine Wv.int ?_ | refine Wv.str ?_ | refine Wv.bool ?_ | exact Wv.same rfl
      all_goals rfl
    · refine BR.mk (fun _ => ?_) (fun _ => trivial)
      exact ⟨Nat.le_of_ble_eq_true rfl, .inl ⟨rfl, _, rfl, .cons (.same rfl) (.cons (.same rfl) (.cons (.same rfl) .nil))⟩⟩
  · rintro i ⟨hi, hf⟩
    have z1 : decide ((i : Int) < (s.length : Int)) = true → (0 : Int) ≤ (i : Int) ∧ (i : Int) < (s.length : Int) := fun a => ⟨by omega, of_decide_eq_true a⟩
    have w1 : IntKind.i64.wrap ((i : Int) + 1) = ((i + 1 : Nat) : Int) := (wrap_id (by unfold i64; omega)).trans (by omega)
    by_cases hb : i < s.length ∧ blank (s.getD i 0) = true
    · obtain ⟨hil, hb⟩ := hb
      have q1 : decide ((i : Int) < (s.length : Int)) = true := decide_eq_true (by omega)
      have hf2 : s.dropWhile blank = (s.drop (i + 1)).dropWhile blank := by rw [hf, dw_at hil, if_pos hb]
      have nb : (bA s (i : Int) == 32) = false → decide (bA s (i : Int) ≥ 9) = false → False := fun a b => by
        rw [bA_is] at a b
        rw [blank_at, a, b] at hb
        cases hb
      have nb2 : (bA s (i : Int) == 32) = false → decide (bA s (i : Int) ≤ 13) = false → False := fun a b => by
        rw [bA_is] at a b
        rw [blank_at, a, b, Bool.and_false] at hb
        cases hb
      repeat' (refine BR.mk (fun h => ?_) (fun h => ?_) <;> first | with_reducible exact Bool.noConfusion h | with_reducible exact Bool.noConfusion (q1.symm.trans h) | with_reducible exact (nb (by assumption) h).elim | with_reducible exact (nb2 (by assumption) h).elim | skip)
      all_goals first | with_reducible exact z1 (by assumption) | skip
      all_goals refine Again.fam (i + 1) ⟨hil, hf2⟩ (by show s.length - (i + 1) < s.length - i; omega) rfl rfl rfl rfl trivial ?_ ?_
      all_goals first | (refine BR.mk (fun _ => ⟨Nat.le_of_ble_eq_true rfl, .inl ⟨rfl, _, rfl, .cons (.same rfl) (.cons (.same rfl) (.cons (.same rfl) .nil))⟩⟩) (fun _ => trivial)) | skip
      all_goals repeat' (refine BR.mk (fun _ => ?_) (fun _ => ?_))
      all_goals (any_goals first | exact trivial | exact Wv.any _ | (refine Wv.int ?_; with_reducible rfl) | refine Wv.int ?_ | exact Wv.same rfl)
      all_goals exact w1
    · have he : s.dropWhile blank = s.drop i := by
        rw [hf]
        by_cases hil : i < s.length
        · rw [dw_at hil, if_neg (fun e => hb ⟨hil, e⟩)]
        · rw [List.drop_of_length_le (by omega)]; rfl
      have nb1 : decide ((i : Int) < (s.length : Int)) = true → (bA s (i : Int) == 32) = true → False := fun l a => by
        rw [bA_is] at a
        refine hb ⟨by have := of_decide_eq_true l; omega, ?_⟩
        rw [blank_at, a]; rfl
      have nb2 : decide ((i : Int) < (s.length : Int)) = true → decide (bA s (i : Int) ≥ 9) = true → decide (bA s (i : Int) ≤ 13) = true → False := fun l a b => by
        rw [bA_is] at a b
        refine hb ⟨by have := of_decide_eq_true l; omega, ?_⟩
        rw [blank_at, a, b]; cases (((s.getD i 0).toNat : Int) == 32) <;> rfl
      rw [he]
      by_cases hm : i < s.length ∧ s.getD i 0 = 45
      · obtain ⟨hil, h45⟩ := hm
        have hi2 : i + 1 ≤ s.length := hil
        have hmi : (bA s (i : Int) == 45) = true := by rw [bA_is, h45]; decide
        have hN : numS (s.drop i) = ofD true (digs 0 (s.drop (i + 1))) := by
          have p : Lib.hasPrefix (s.drop i) [45] = true := by rw [pre_at 45 hil, h45]; rfl
          exact sign_m p
        have q0 : decide ((i : Int) < (s.length : Int)) = true := decide_eq_true (by omega)
        skip
        repeat' (refine BR.mk (fun h => ?_) (fun h => ?_) <;> first | with_reducible exact Bool.noConfusion h | with_reducible exact (nb1 (by assumption) h).elim | with_reducible exact (nb2 (by assumption) (by assumption) h).elim | with_reducible exact Bool.noConfusion (q0.symm.trans h) | with_reducible exact Bool.noConfusion (hmi.symm.trans h) | skip)
        all_goals first | with_reducible exact z1 (by assumption) | skip
        all_goals
          refine loop_fam ET4_ok mixed (σ := Nat × Nat) (fun p => i + 1 ≤ p.1 ∧ p.1 ≤ s.length ∧ p.2 ≤ 9223372036854775808 ∧ digs 0 (s.drop (i + 1)) = digs p.2 (s.drop p.1)) (fun p => s.length - p.1) (i + 1, 0) ⟨Nat.le_refl _, hi2, Nat.zero_le _, rfl⟩ 1 0 [1] (fun p => [(3, .int .i64 p.1), (4, .bool true), (5, .int .i64 (-(p.2 : Int)))]) [] (fun _ => [(0, .cells [.int .u8 k, .int .i64 n, .str s])]) (fun _ => []) ?_ ?_ ?_ ?_
          · rfl
          · rfl
          · refine Wk.mk' rfl rfl trivial ?_ ?_
            · repeat' (refine BR.mk (fun _ => ?_) (fun _ => ?_))
              any_goals first | exact trivial | exact Wv.any _ | (refine Wv.int ?_; with_reducible rfl) | (refine Wv.str ?_; with_reducible rfl) | (refine Wv.bool ?_; with_reducible rfl) | refine Wv.int ?_ | refine Wv.str ?_ | refine Wv.bool ?_ | exact Wv.same rfl
              all_goals first | rfl | exact w1 | exact hmi
            · refine BR.mk (fun _ => ?_) (fun _ => trivial)
              exact ⟨Nat.le_of_ble_eq_true rfl, .inl ⟨rfl, _, rfl, .cons (.same rfl) (.cons (.same rfl) (.cons (.same rfl) .nil))⟩⟩
          · rintro ⟨j, m⟩ ⟨hij, hjl, hm, hD⟩
            simp only at hij hjl hm hD
            have y1 : decide ((j : Int) < (s.length : Int)) = true → (0 : Int) ≤ (j : Int) ∧ (j : Int) < (s.length : Int) := fun a => ⟨by omega, of_decide_eq_true a⟩
            have v1 : IntKind.i64.wrap ((j : Int) + 1) = ((j + 1 : Nat) : Int) := (wrap_id (by unfold i64; omega)).trans (by omega)
            by_cases hdg : j < s.length ∧ 48 ≤ (s.getD j 0).toNat ∧ (s.getD j 0).toNat ≤ 57
            · obtain ⟨hj, hr⟩ := hdg
              have q1 : decide ((j : Int) < (s.length : Int)) = true := decide_eq_true (by omega)
              have q2 : decide (bA s (j : Int) ≥ 48) = true := by rw [bA_is]; exact decide_eq_true (by omega)
              have q3 : decide (bA s (j : Int) ≤ 57) = true := by rw [bA_is]; exact decide_eq_true (by omega)
              by_cases hov : m > (9223372036854775808 - ((s.getD j 0).toNat - 48)) / 10
              · have q4 : decide (-(m : Int) < ovI s (j : Int)) = true := by rw [ovI_is hr]; exact decide_eq_true (by omega)
                have e : digs 0 (s.drop (i + 1)) = 9223372036854775808 := by rw [hD, digs_at hj, if_pos hr, if_pos hov]
                rw [hN, e]
                repeat' (refine BR.mk (fun h => ?_) (fun h => ?_) <;> first | with_reducible exact Bool.noConfusion h | with_reducible exact Bool.noConfusion (q1.symm.trans h) | with_reducible exact Bool.noConfusion (q2.symm.trans h) | with_reducible exact Bool.noConfusion (q3.symm.trans h) | with_reducible exact Bool.noConfusion (q4.symm.trans h) | skip)
                all_goals first | with_reducible exact y1 (by assumption) | exact (show (10 : Int) ≠ 0 by decide) | exact Fini.mk rfl
              · have q4 : decide (-(m : Int) < ovI s (j : Int)) = false := by rw [ovI_is hr]; exact decide_eq_false (by omega)
                have e : digs 0 (s.drop (i + 1)) = digs (10 * m + ((s.getD j 0).toNat - 48)) (s.drop (j + 1)) := by rw [hD, digs_at hj, if_pos hr, if_neg hov]
                have v2 : IntKind.i64.wrap (IntKind.i64.wrap (-(m : Int) * 10) - dE s (j : Int)) = -((10 * m + ((s.getD j 0).toNat - 48) : Nat) : Int) := by
                  rw [dE_is hr, wrap_id (n := -(m : Int) * 10) (by unfold i64; omega), wrap_id (by unfold i64; omega)]
                  omega
                repeat' (refine BR.mk (fun h => ?_) (fun h => ?_) <;> first | with_reducible exact Bool.noConfusion h | with_reducible exact Bool.noConfusion (q1.symm.trans h) | with_reducible exact Bool.noConfusion (q2.symm.trans h) | with_reducible exact Bool.noConfusion (q3.symm.trans h) | with_reducible exact Bool.noConfusion (q4.symm.trans h) | skip)
                all_goals first | with_reducible exact y1 (by assumption) | exact (show (10 : Int) ≠ 0 by decide) | skip
                all_goals refine Again.fam (j + 1, 10 * m + ((s.getD j 0).toNat - 48)) ⟨by show i + 1 ≤ j + 1; omega, hj, by show 10 * m + ((s.getD j 0).toNat - 48) ≤ 9223372036854775808; omega, e⟩ (by show s.length - (j + 1) < s.length - j; omega) rfl rfl rfl rfl trivial ?_ ?_
                all_goals first | (refine BR.mk (fun _ => ⟨Nat.le_of_ble_eq_true rfl, .inl ⟨rfl, _, rfl, .cons (.same rfl) (.cons (.same rfl) (.cons (.same rfl) .nil))⟩⟩) (fun _ => trivial)) | skip
                all_goals repeat' (refine BR.mk (fun _ => ?_) (fun _ => ?_))
                all_goals (any_goals first | exact trivial | exact Wv.any _ | (refine Wv.int ?_; with_reducible rfl) | refine Wv.int ?_ | exact Wv.same rfl)
                all_goals first | exact v1 | exact v2
            · have e : digs 0 (s.drop (i + 1)) = m := by
                rw [hD]
                by_cases hj : j < s.length
                · rw [digs_at hj, if_neg (fun e => hdg ⟨hj, e⟩)]
                · exact digs_nil (by omega)
              have nd : decide ((j : Int) < (s.length : Int)) = true → decide (bA s (j : Int) ≥ 48) = true → decide (bA s (j : Int) ≤ 57) = true → False := fun l a b => by
                rw [bA_is] at a b
                have := of_decide_eq_true l
                have := of_decide_eq_true a
                have := of_decide_eq_true b
                exact hdg ⟨by omega, by omega, by omega⟩
              rw [hN, e]
              repeat' (refine BR.mk (fun h => ?_) (fun h => ?_) <;> first | with_reducible exact Bool.noConfusion h | with_reducible exact (nd (by assumption) (by assumption) h).elim | skip)
              all_goals first | with_reducible exact y1 (by assumption) | skip
              all_goals refine Fini.mk (congrArg (AV.int .i64) ?_)
              all_goals first | rfl | exact ofD_least h | exact ofD_else h hm
      · by_cases hp : i < s.length ∧ s.getD i 0 = 43
        · obtain ⟨hil, h43⟩ := hp
          have hi2 : i + 1 ≤ s.length := hil
          have hmi : (bA s (i : Int) == 45) = false := by rw [bA_is, h43]; decide
          have hpl : (bA s (i : Int) == 43) = true := by rw [bA_is, h43]; decide
          have hN : numS (s.drop i) = ofD false (digs 0 (s.drop (i + 1))) := by
            have p : Lib.hasPrefix (s.drop i) [45] = false := by rw [pre_at 45 hil, h43]; rfl
            have p2 : Lib.hasPrefix (s.drop i) [43] = true := by rw [pre_at 43 hil, h43]; rfl
            exact sign_p p p2
          have q0 : decide ((i : Int) < (s.length : Int)) = true := decide_eq_true (by omega)
          skip
          repeat' (refine BR.mk (fun h => ?_) (fun h => ?_) <;> first | with_reducible exact Bool.noConfusion h | with_reducible exact (nb1 (by assumption) h).elim | with_reducible exact (nb2 (by assumption) (by assumption) h).elim | with_reducible exact Bool.noConfusion (q0.symm.trans h) | with_reducible exact Bool.noConfusion (hmi.symm.trans h) | with_reducible exact Bool.noConfusion (hpl.symm.trans h) | skip)
          all_goals first | with_reducible exact z1 (by assumption) | skip
          all_goals
            refine loop_fam ET4_ok mixed (σ := Nat × Nat) (fun p => i + 1 ≤ p.1 ∧ p.1 ≤ s.length ∧ p.2 ≤ 9223372036854775808 ∧ digs 0 (s.drop (i + 1)) = digs p.2 (s.drop p.1)) (fun p => s.length - p.1) (i + 1, 0) ⟨Nat.le_refl _, hi2, Nat.zero_le _, rfl⟩ 1 0 [1] (fun p => [(3, .int .i64 p.1), (4, .bool false), (5, .int .i64 (-(p.2 : Int)))]) [] (fun _ => [(0, .cells [.int .u8 k, .int .i64 n, .str s])]) (fun _ => []) ?_ ?_ ?_ ?_
            · rfl
            · rfl
            · refine Wk.mk' rfl rfl trivial ?_ ?_
              · repeat' (refine BR.mk (fun _ => ?_) (fun _ => ?_))
                any_goals first | exact trivial | exact Wv.any _ | (refine Wv.int ?_; with_reducible rfl) | (refine Wv.str ?_; with_reducible rfl) | (refine Wv.bool ?_; with_reducible rfl) | refine Wv.int ?_ | refine Wv.str ?_ | refine Wv.bool ?_ | exact Wv.same rfl
                all_goals first | rfl | exact w1 | exact hmi
              · refine BR.mk (fun _ => ?_) (fun _ => trivial)
                exact ⟨Nat.le_of_ble_eq_true rfl, .inl ⟨rfl, _, rfl, .cons (.same rfl) (.cons (.same rfl) (.cons (.same rfl) .nil))⟩⟩
            · rintro ⟨j, m⟩ ⟨hij, hjl, hm, hD⟩
              simp only at hij hjl hm hD
              have y1 : decide ((j : Int) < (s.length : Int)) = true → (0 : Int) ≤ (j : Int) ∧ (j : Int) < (s.length : Int) := fun a => ⟨by omega, of_decide_eq_true a⟩
              have v1 : IntKind.i64.wrap ((j : Int) + 1) = ((j + 1 : Nat) : Int) := (wrap_id (by unfold i64; omega)).trans (by omega)
              by_cases hdg : j < s.length ∧ 48 ≤ (s.getD j 0).toNat ∧ (s.getD j 0).toNat ≤ 57
              · obtain ⟨hj, hr⟩ := hdg
                have q1 : decide ((j : Int) < (s.length : Int)) = true := decide_eq_true (by omega)
                have q2 : decide (bA s (j : Int) ≥ 48) = true := by rw [bA_is]; exact decide_eq_true (by omega)
                have q3 : decide (bA s (j : Int) ≤ 57) = true := by rw [bA_is]; exact decide_eq_true (by omega)
                by_cases hov : m > (9223372036854775808 - ((s.getD j 0).toNat - 48)) / 10
                · have q4 : decide (-(m : Int) < ovI s (j : Int)) = true := by rw [ovI_is hr]; exact decide_eq_true (by omega)
                  have e : digs 0 (s.drop (i + 1)) = 9223372036854775808 := by rw [hD, digs_at hj, if_pos hr, if_pos hov]
                  rw [hN, e]
                  repeat' (refine BR.mk (fun h => ?_) (fun h => ?_) <;> first | with_reducible exact Bool.noConfusion h | with_reducible exact Bool.noConfusion (q1.symm.trans h) | with_reducible exact Bool.noConfusion (q2.symm.trans h) | with_reducible exact Bool.noConfusion (q3.symm.trans h) | with_reducible exact Bool.noConfusion (q4.symm.trans h) | skip)
                  all_goals first | with_reducible exact y1 (by assumption) | exact (show (10 : Int) ≠ 0 by decide) | exact Fini.mk rfl
                · have q4 : decide (-(m : Int) < ovI s (j : Int)) = false := by rw [ovI_is hr]; exact decide_eq_false (by omega)
                  have e : digs 0 (s.drop (i + 1)) = digs (10 * m + ((s.getD j 0).toNat - 48)) (s.drop (j + 1)) := by rw [hD, digs_at hj, if_pos hr, if_neg hov]
                  have v2 : IntKind.i64.wrap (IntKind.i64.wrap (-(m : Int) * 10) - dE s (j : Int)) = -((10 * m + ((s.getD j 0).toNat - 48) : Nat) : Int) := by
                    rw [dE_is hr, wrap_id (n := -(m : Int) * 10) (by unfold i64; omega), wrap_id (by unfold i64; omega)]
                    omega
                  repeat' (refine BR.mk (fun h => ?_) (fun h => ?_) <;> first | with_reducible exact Bool.noConfusion h | with_reducible exact Bool.noConfusion (q1.symm.trans h) | with_reducible exact Bool.noConfusion (q2.symm.trans h) | with_reducible exact Bool.noConfusion (q3.symm.trans h) | with_reducible exact Bool.noConfusion (q4.symm.trans h) | skip)
                  all_goals first | with_reducible exact y1 (by assumption) | exact (show (10 : Int) ≠ 0 by decide) | skip
                  all_goals refine Again.fam (j + 1, 10 * m + ((s.getD j 0).toNat - 48)) ⟨by show i + 1 ≤ j + 1; omega, hj, by show 10 * m + ((s.getD j 0).toNat - 48) ≤ 9223372036854775808; omega, e⟩ (by show s.length - (j + 1) < s.length - j; omega) rfl rfl rfl rfl trivial ?_ ?_
                  all_goals first | (refine BR.mk (fun _ => ⟨Nat.le_of_ble_eq_true rfl, .inl ⟨rfl, _, rfl, .cons (.same rfl) (.cons (.same rfl) (.cons (.same rfl) .nil))⟩⟩) (fun _ => trivial)) | skip
                  all_goals repeat' (refine BR.mk (fun _ => ?_) (fun _ => ?_))
                  all_goals (any_goals first | exact trivial | exact Wv.any _ | (refine Wv.int ?_; with_reducible rfl) | refine Wv.int ?_ | exact Wv.same rfl)
                  all_goals first | exact v1 | exact v2
              · have e : digs 0 (s.drop (i + 1)) = m := by
                  rw [hD]
                  by_cases hj : j < s.length
                  · rw [digs_at hj, if_neg (fun e => hdg ⟨hj, e⟩)]
                  · exact digs_nil (by omega)
                have nd : decide ((j : Int) < (s.length : Int)) = true → decide (bA s (j : Int) ≥ 48) = true → decide (bA s (j : Int) ≤ 57) = true → False := fun l a b => by
                  rw [bA_is] at a b
                  have := of_decide_eq_true l
                  have := of_decide_eq_true a
                  have := of_decide_eq_true b
                  exact hdg ⟨by omega, by omega, by omega⟩
                rw [hN, e]
                repeat' (refine BR.mk (fun h => ?_) (fun h => ?_) <;> first | with_reducible exact Bool.noConfusion h | with_reducible exact (nd (by assumption) (by assumption) h).elim | skip)
                all_goals first | with_reducible exact y1 (by assumption) | skip
                all_goals refine Fini.mk (congrArg (AV.int .i64) ?_)
                all_goals first | rfl | exact ofD_least h | exact ofD_else h hm
        · have hi2 : i ≤ s.length := hi
          have hmi : true = true := rfl
          have hN : numS (s.drop i) = ofD false (digs 0 (s.drop i)) := by
            have p : Lib.hasPrefix (s.drop i) [45] = false := by
              by_cases hil : i < s.length
              · rw [pre_at 45 hil]; simpa using fun e => hm ⟨hil, e⟩
              · exact pre_nil 45 (by omega)
            have p2 : Lib.hasPrefix (s.drop i) [43] = false := by
              by_cases hil : i < s.length
              · rw [pre_at 43 hil]; simpa using fun e => hp ⟨hil, e⟩
              · exact pre_nil 43 (by omega)
            exact sign_n p p2
          have n45 : decide ((i : Int) < (s.length : Int)) = true → (bA s (i : Int) == 45) = true → False := fun l a => by
            rw [bA_is] at a
            refine hm ⟨by have := of_decide_eq_true l; omega, UInt8.toNat_inj.1 ?_⟩
            have := eq_of_beq a
            show (s.getD i 0).toNat = 45
            omega
          have n43 : decide ((i : Int) < (s.length : Int)) = true → (bA s (i : Int) == 43) = true → False := fun l a => by
            rw [bA_is] at a
            refine hp ⟨by have := of_decide_eq_true l; omega, UInt8.toNat_inj.1 ?_⟩
            have := eq_of_beq a
            show (s.getD i 0).toNat = 43
            omega
          skip
          repeat' (refine BR.mk (fun h => ?_) (fun h => ?_) <;> first | with_reducible exact Bool.noConfusion h | with_reducible exact (nb1 (by assumption) h).elim | with_reducible exact (nb2 (by assumption) (by assumption) h).elim | with_reducible exact (n45 (by assumption) h).elim | with_reducible exact (n43 (by assumption) h).elim | skip)
          all_goals first | with_reducible exact z1 (by assumption) | skip
          all_goals
            refine loop_fam ET4_ok mixed (σ := Nat × Nat) (fun p => i ≤ p.1 ∧ p.1 ≤ s.length ∧ p.2 ≤ 9223372036854775808 ∧ digs 0 (s.drop (i)) = digs p.2 (s.drop p.1)) (fun p => s.length - p.1) (i, 0) ⟨Nat.le_refl _, hi2, Nat.zero_le _, rfl⟩ 1 0 [1] (fun p => [(3, .int .i64 p.1), (4, .bool false), (5, .int .i64 (-(p.2 : Int)))]) [] (fun _ => [(0, .cells [.int .u8 k, .int .i64 n, .str s])]) (fun _ => []) ?_ ?_ ?_ ?_
            · rfl
            · rfl
            · refine Wk.mk' rfl rfl trivial ?_ ?_
              · repeat' (refine BR.mk (fun _ => ?_) (fun _ => ?_))
                any_goals first | exact trivial | exact Wv.any _ | (refine Wv.int ?_; with_reducible rfl) | (refine Wv.str ?_; with_reducible rfl) | (refine Wv.bool ?_; with_reducible rfl) | refine Wv.int ?_ | refine Wv.str ?_ | refine Wv.bool ?_ | exact Wv.same rfl
                all_goals first | rfl | exact w1 | exact hmi
              · refine BR.mk (fun _ => ?_) (fun _ => trivial)
                exact ⟨Nat.le_of_ble_eq_true rfl, .inl ⟨rfl, _, rfl, .cons (.same rfl) (.cons (.same rfl) (.cons (.same rfl) .nil))⟩⟩
            · rintro ⟨j, m⟩ ⟨hij, hjl, hm, hD⟩
              simp only at hij hjl hm hD
              have y1 : decide ((j : Int) < (s.length : Int)) = true → (0 : Int) ≤ (j : Int) ∧ (j : Int) < (s.length : Int) := fun a => ⟨by omega, of_decide_eq_true a⟩
              have v1 : IntKind.i64.wrap ((j : Int) + 1) = ((j + 1 : Nat) : Int) := (wrap_id (by unfold i64; omega)).trans (by omega)
              by_cases hdg : j < s.length ∧ 48 ≤ (s.getD j 0).toNat ∧ (s.getD j 0).toNat ≤ 57
              · obtain ⟨hj, hr⟩ := hdg
                have q1 : decide ((j : Int) < (s.length : Int)) = true := decide_eq_true (by omega)
                have q2 : decide (bA s (j : Int) ≥ 48) = true := by rw [bA_is]; exact decide_eq_true (by omega)
                have q3 : decide (bA s (j : Int) ≤ 57) = true := by rw [bA_is]; exact decide_eq_true (by omega)
                by_cases hov : m > (9223372036854775808 - ((s.getD j 0).toNat - 48)) / 10
                · have q4 : decide (-(m : Int) < ovI s (j : Int)) = true := by rw [ovI_is hr]; exact decide_eq_true (by omega)
                  have e : digs 0 (s.drop (i)) = 9223372036854775808 := by rw [hD, digs_at hj, if_pos hr, if_pos hov]
                  rw [hN, e]
                  repeat' (refine BR.mk (fun h => ?_) (fun h => ?_) <;> first | with_reducible exact Bool.noConfusion h | with_reducible exact Bool.noConfusion (q1.symm.trans h) | with_reducible exact Bool.noConfusion (q2.symm.trans h) | with_reducible exact Bool.noConfusion (q3.symm.trans h) | with_reducible exact Bool.noConfusion (q4.symm.trans h) | skip)
                  all_goals first | with_reducible exact y1 (by assumption) | exact (show (10 : Int) ≠ 0 by decide) | exact Fini.mk rfl
                · have q4 : decide (-(m : Int) < ovI s (j : Int)) = false := by rw [ovI_is hr]; exact decide_eq_false (by omega)
                  have e : digs 0 (s.drop (i)) = digs (10 * m + ((s.getD j 0).toNat - 48)) (s.drop (j + 1)) := by rw [hD, digs_at hj, if_pos hr, if_neg hov]
                  have v2 : IntKind.i64.wrap (IntKind.i64.wrap (-(m : Int) * 10) - dE s (j : Int)) = -((10 * m + ((s.getD j 0).toNat - 48) : Nat) : Int) := by
                    rw [dE_is hr, wrap_id (n := -(m : Int) * 10) (by unfold i64; omega), wrap_id (by unfold i64; omega)]
                    omega
                  repeat' (refine BR.mk (fun h => ?_) (fun h => ?_) <;> first | with_reducible exact Bool.noConfusion h | with_reducible exact Bool.noConfusion (q1.symm.trans h) | with_reducible exact Bool.noConfusion (q2.symm.trans h) | with_reducible exact Bool.noConfusion (q3.symm.trans h) | with_reducible exact Bool.noConfusion (q4.symm.trans h) | skip)
                  all_goals first | with_reducible exact y1 (by assumption) | exact (show (10 : Int) ≠ 0 by decide) | skip
                  all_goals refine Again.fam (j + 1, 10 * m + ((s.getD j 0).toNat - 48)) ⟨by show i ≤ j + 1; omega, hj, by show 10 * m + ((s.getD j 0).toNat - 48) ≤ 9223372036854775808; omega, e⟩ (by show s.length - (j + 1) < s.length - j; omega) rfl rfl rfl rfl trivial ?_ ?_
                  all_goals first | (refine BR.mk (fun _ => ⟨Nat.le_of_ble_eq_true rfl, .inl ⟨rfl, _, rfl, .cons (.same rfl) (.cons (.same rfl) (.cons (.same rfl) .nil))⟩⟩) (fun _ => trivial)) | skip
                  all_goals repeat' (refine BR.mk (fun _ => ?_) (fun _ => ?_))
                  all_goals (any_goals first | exact trivial | exact Wv.any _ | (refine Wv.int ?_; with_reducible rfl) | refine Wv.int ?_ | exact Wv.same rfl)
                  all_goals first | exact v1 | exact v2
              · have e : digs 0 (s.drop (i)) = m := by
                  rw [hD]
                  by_cases hj : j < s.length
                  · rw [digs_at hj, if_neg (fun e => hdg ⟨hj, e⟩)]
                  · exact digs_nil (by omega)
                have nd : decide ((j : Int) < (s.length : Int)) = true → decide (bA s (j : Int) ≥ 48) = true → decide (bA s (j : Int) ≤ 57) = true → False := fun l a b => by
                  rw [bA_is] at a b
                  have := of_decide_eq_true l
                  have := of_decide_eq_true a
                  have := of_decide_eq_true b
                  exact hdg ⟨by omega, by omega, by omega⟩
                rw [hN, e]
                repeat' (refine BR.mk (fun h => ?_) (fun h => ?_) <;> first | with_reducible exact Bool.noConfusion h | with_reducible exact (nd (by assumption) (by assumption) h).elim | skip)
                all_goals first | with_reducible exact y1 (by assumption) | skip
                all_goals refine Fini.mk (congrArg (AV.int .i64) ?_)
                all_goals first | rfl | exact ofD_least h | exact ofD_else h hm
end
theorem pc_rint (a : V) (hn : a.s.length ≤ 1000000) : PC Tryz.prog GV 125 [encV a] (.int .i64 (intV a)) := by
  obtain ⟨k, n, s⟩ := a
  unfold intV
  by_cases h1 : k = 1
  · subst h1
    rw [if_pos rfl]
    have k1 : ((1 : Int) == 1) = true := rfl
    refine pc_fin ET4_ok mixed (show Tryz.prog.funcs[125]? = some Tryz.f125 from rfl) ?_
    repeat' (refine BR.mk (fun h => ?_) (fun h => ?_) <;> first | with_reducible exact Bool.noConfusion h | with_reducible exact Bool.noConfusion (k1.symm.trans h) | skip)
    all_goals exact Fini.mk rfl
  · rw [if_neg h1]
    by_cases h0 : k = 0
    · subst h0
      rw [if_pos rfl]
      have k1 : ((0 : Int) == 1) = false := rfl
      have k0 : ((0 : Int) == 0) = true := rfl
      refine pc_fin ET4_ok mixed (show Tryz.prog.funcs[125]? = some Tryz.f125 from rfl) ?_
      repeat' (refine BR.mk (fun h => ?_) (fun h => ?_) <;> first | with_reducible exact Bool.noConfusion h | with_reducible exact Bool.noConfusion (k1.symm.trans h) | with_reducible exact Bool.noConfusion (k0.symm.trans h) | skip)
      all_goals exact Fini.mk rfl
    · rw [if_neg h0, trim_is]
      exact rint_txt k n s h1 h0 hn
def h_rint : List AV → CR
  | [.agg [.int .u8 ak, .int .i64 an, .str az]] => .need (az.length ≤ 1000000) (.int .i64 (intV ⟨ak, an, az⟩))
  | _ => .no
theorem h_rint_ok (xs : List AV) : CRok Tryz.prog GV 125 xs (h_rint xs) := by
  unfold h_rint
  split
  · rename_i ak an az
    exact fun hn => pc_rint ⟨ak, an, az⟩ hn
  · trivial
noncomputable def ET5 : Env := ET4.add 125 h_rint
theorem ET5_ok : EnvOk Tryz.prog ET5 := Env.add_ok ET4_ok (by kernel_rfl) h_rint_ok

end Go.Proofs.YtejepcnoflahkaaGreatDoor
end
