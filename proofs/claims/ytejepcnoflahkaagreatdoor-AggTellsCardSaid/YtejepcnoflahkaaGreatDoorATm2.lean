/- AggTells: of any values, right or not, each total is as the document defines it, behind each of them: the walk. -/
import Derived.Test.YtejepcnoflahkaaGreatDoorATm1
section
namespace Go.Proofs.YtejepcnoflahkaaGreatDoor
open Go Go.Ab
set_option linter.unusedVariables false
set_option linter.unusedSimpArgs false
set_option maxRecDepth 100000
set_option maxHeartbeats 8000000

theorem known_is (n : List UInt8) : (n ∈ names) ↔ (n = sCount ∨ n = sStar ∨ n = sSum ∨ n = sTotal ∨ n = sMin ∨ n = sMax ∨ n = sConcat) := by
  unfold names; simp
theorem pc_rknown (n : List UInt8) : PC Tryz.prog GV 13 [.str n] (.bool (decide (n ∈ names))) := by
  rw [decide_eq_decide.2 (known_is n)]
  refine pc_fin ET5_ok mixed (show Tryz.prog.funcs[13]? = some Tryz.f13 from rfl) ?_
  repeat' (refine BR.mk (fun h => ?_) (fun h => ?_) <;> first | with_reducible exact Bool.noConfusion h | skip)
  any_goals refine Fini.mk (congrArg AV.bool ?_)
  all_goals first | (show Decidable _; infer_instance) | skip
  all_goals simp only [beq_iff_eq, beq_eq_false_iff_ne, ne_eq] at *
  all_goals unfold sCount sStar sSum sTotal sMin sMax sConcat
  all_goals first | exact (decide_eq_true (by simp_all)).symm | exact (decide_eq_false (by simp_all)).symm | (simp [*]; done) | (by_cases hh : n = [103, 114, 111, 117, 112, 95, 99, 111, 110, 99, 97, 116] <;> simp [hh, *])
def h_rknown : List AV → CR
  | [.str n] => .yes (.bool (decide (n ∈ names)))
  | _ => .no
theorem h_rknown_ok (xs : List AV) : CRok Tryz.prog GV 13 xs (h_rknown xs) := by
  unfold h_rknown
  split
  · exact pc_rknown _
  · trivial
noncomputable def ET6 : Env := ET5.add 13 h_rknown
theorem ET6_ok : EnvOk Tryz.prog ET6 := Env.add_ok ET5_ok (by kernel_rfl) h_rknown_ok
theorem pc_rnew (n : List UInt8) (d : Bool) : PC Tryz.prog GV 11 [.str n, .bool d] (.int .i64 (newE n d)) := by
  refine pc_fin ET6_ok mixed (show Tryz.prog.funcs[11]? = some Tryz.f11 from rfl) ?_
  repeat' (refine BR.mk (fun h => ?_) (fun h => ?_) <;> first | with_reducible exact Bool.noConfusion h | skip)
  all_goals refine Fini.mk (congrArg (AV.int .i64) ?_)
  all_goals unfold newE
  all_goals simp only [Bool.not_eq_true', Bool.not_eq_false', decide_eq_true_eq, decide_eq_false_iff_not] at *
  all_goals unfold sStar
  all_goals simp [*]
def h_rnew : List AV → CR
  | [.str n, .bool d] => .yes (.int .i64 (newE n d))
  | _ => .no
theorem h_rnew_ok (xs : List AV) : CRok Tryz.prog GV 11 xs (h_rnew xs) := by
  unfold h_rnew
  split
  · exact pc_rnew _ _
  · trivial
noncomputable def ET7 : Env := ET6.add 11 h_rnew
theorem ET7_ok : EnvOk Tryz.prog ET7 := Env.add_ok ET6_ok (by kernel_rfl) h_rnew_ok
def hL (l : List V) : Int := (l.map fun x => intV x / 4294967296).foldr (· + ·) 0
def lL (l : List V) : Int := (l.map fun x => intV x % 4294967296).foldr (· + ·) 0
theorem foldr_snoc (f : V → Int) (l : List V) (x : V) : ((l ++ [x]).map f).foldr (· + ·) 0 = (l.map f).foldr (· + ·) 0 + f x := by
  induction l with
  | nil => simp
  | cons y l ih => simp only [List.cons_append, List.map_cons, List.foldr_cons, ih]; omega
theorem take_snoc {l : List V} {i : Nat} (h : i < l.length) : l.take (i + 1) = l.take i ++ [l.getD i null] := by
  rw [List.take_add_one, List.getElem?_eq_getElem h, List.getD_eq_getElem?_getD, List.getElem?_eq_getElem h]; rfl
theorem hL_step {l : List V} {i : Nat} (h : i < l.length) : hL (l.take (i + 1)) = hL (l.take i) + intV (l.getD i null) / 4294967296 := by
  rw [take_snoc h]; exact foldr_snoc _ _ _
theorem lL_step {l : List V} {i : Nat} (h : i < l.length) : lL (l.take (i + 1)) = lL (l.take i) + intV (l.getD i null) % 4294967296 := by
  rw [take_snoc h]; exact foldr_snoc _ _ _
theorem hl_is : ∀ l : List V, (∀ x ∈ l, i64 (intV x)) → hL l * 4294967296 + lL l = sumI l ∧ -2147483648 * (l.length : Int) ≤ hL l ∧ hL l ≤ 2147483648 * (l.length : Int) ∧ 0 ≤ lL l ∧ lL l ≤ 4294967296 * (l.length : Int)
  | [], _ => by simp [sumI, hL, lL]
  | x :: l, h => by
    have ih := hl_is l fun y hy => h y (by simp [hy])
    have hx := h x (by simp)
    unfold i64 at hx
    have e1 : sumI (x :: l) = intV x + sumI l := rfl
    have e2 : hL (x :: l) = intV x / 4294967296 + hL l := rfl
    have e3 : lL (x :: l) = intV x % 4294967296 + lL l := rfl
    rw [e1, e2, e3, List.length_cons]
    omega
@[reducible] def sumR (l : List V) : Int := if i64 (sumI l) then sumI l else 0
theorem and32 (x : Int) : IntKind.i64.wrap ((BitVec.ofInt IntKind.i64.bits x &&& BitVec.ofInt IntKind.i64.bits 4294967295).toNat : Int) = x % 4294967296 := by
  have : (BitVec.ofInt IntKind.i64.bits x &&& BitVec.ofInt IntKind.i64.bits 4294967295).toNat = (x % 18446744073709551616).toNat % 4294967296 := by
    show (BitVec.ofInt 64 x &&& BitVec.ofInt 64 4294967295).toNat = _
    rw [BitVec.toNat_and, BitVec.toNat_ofInt, BitVec.toNat_ofInt]
    exact Nat.and_two_pow_sub_one_eq_mod _ 32
  rw [this, wrap_id (by unfold i64; omega)]
  omega
theorem shr32 (x : Int) : x.fdiv (2 ^ min (Int.toNat 32) IntKind.i64.bits) = x / 4294967296 := by
  have : (2 ^ min (Int.toNat 32) IntKind.i64.bits : Int) = 4294967296 := by decide
  rw [this]
  exact Int.fdiv_eq_ediv_of_nonneg _ (by decide)
set_option smartUnfolding false in
theorem hc_rsum (l : List V) (hl : l.length ≤ 1000) (hs : ∀ x ∈ l, x.s.length ≤ 1000000) (hi : ∀ x ∈ l, i64 (intV x)) : HC Tryz.prog GV 63 [.hs 0 0 l.length 3 none] (St.small [.arr 34 3 l.length (vF l)] []) (.tup [.int .i64 (sumR l), .bool (decide (i64 (sumI l)))]) (rowOf l) := by
  refine hc_of ET7_ok mixed (show Tryz.prog.funcs[63]? = some Tryz.f63 from rfl) (Nat.le_of_ble_eq_true rfl) (Nat.le_of_ble_eq_true rfl) ?_
  refine loop_fam ET7_ok mixed (σ := Nat) (fun i => i ≤ l.length) (fun i => l.length - i) 0 (Nat.zero_le _) 1 0 [0] (fun i => [(4, .int .i64 (hL (l.take i))), (5, .int .i64 (lL (l.take i))), (6, .int .i64 i)]) [0] (fun _ => []) (fun _ => []) ?_ ?_ ?_ ?_
  · rfl
  · rfl
  · refine Wk.mk' rfl rfl trivial ?_ ?_
    repeat' (refine BR.mk (fun _ => ?_) (fun _ => ?_))
    any_goals first | exact trivial | exact Wv.any _ | (refine Wv.int ?_; with_reducible rfl) | (refine Wv.str ?_; with_reducible rfl) | (refine Wv.bool ?_; with_reducible rfl) | refine Wv.int ?_ | refine Wv.str ?_ | refine Wv.bool ?_ | exact Wv.same rfl
    all_goals first | rfl | exact ⟨Nat.le_of_ble_eq_true rfl, .inl ⟨rfl, _, rfl, arr_same (fun _ _ => rfl) fun j _ => rfl⟩⟩
  · intro i hil
    by_cases hlt : i < l.length
    · have k1 : decide ((i : Int) < (l.length : Int)) = true := decide_eq_true (by omega)
      have e0 : 0 + ((i : Int)).toNat = i := by omega
      repeat' (refine BR.mk (fun h => ?_) (fun h => ?_) <;> first | with_reducible exact Bool.noConfusion h | with_reducible exact Bool.noConfusion (k1.symm.trans h) | skip)
      · exact ⟨⟨by omega, by omega⟩, rfl⟩
      · exact ⟨by omega, rfl⟩
      · rw [e0]; exact hs _ (getD_mem hlt)
      · exact (show (0 : Int) ≤ 32 by decide)
      · have hb := hl_is (l.take i) fun x hx => hi x (List.mem_of_mem_take hx)
        have hb' := hl_is (l.take (i + 1)) fun x hx => hi x (List.mem_of_mem_take hx)
        rw [List.length_take] at hb hb'
        have h1 := hL_step hlt
        have h2 := lL_step hlt
        have eI : intV { k := (l.getD (0 + ((i : Int)).toNat) null).k, n := (l.getD (0 + ((i : Int)).toNat) null).n, s := (l.getD (0 + ((i : Int)).toNat) null).s } = intV (l.getD i null) := by rw [e0]
        refine Again.fam (i + 1) hlt (by show l.length - (i + 1) < l.length - i; omega) rfl rfl rfl rfl trivial ?_ ?_
        · repeat' (refine BR.mk (fun _ => ?_) (fun _ => ?_))
          any_goals first | exact trivial | exact Wv.any _ | (refine Wv.int ?_; with_reducible rfl) | (refine Wv.str ?_; with_reducible rfl) | (refine Wv.bool ?_; with_reducible rfl) | refine Wv.int ?_ | refine Wv.str ?_ | refine Wv.bool ?_ | exact Wv.same rfl
          · rw [shr32, h1, eI]
            exact wrap_id (by unfold i64; omega)
          · rw [and32, h2, eI]
            exact wrap_id (by unfold i64; omega)
          · rw [wrap_id (by unfold i64; omega)]; rfl
        · refine BR.mk (fun _ => ?_) fun _ => trivial
          exact ⟨Nat.le_of_ble_eq_true rfl, .inl ⟨rfl, _, rfl, arr_same (fun _ _ => rfl) fun j _ => rfl⟩⟩
    · have k1 : decide ((i : Int) < (l.length : Int)) = false := decide_eq_false (by omega)
      obtain rfl : i = l.length := by omega
      have hb := hl_is l hi
      rw [List.take_length]
      repeat' (refine BR.mk (fun h => ?_) (fun h => ?_) <;> first | with_reducible exact Bool.noConfusion h | with_reducible exact Bool.noConfusion (k1.symm.trans h) | skip)
      · exact (show (0 : Int) ≤ 32 by decide)
      all_goals refine Go.Ab.Left.mk (Nat.le_refl _) ⟨[], fun _ _ => rfl, ?_, Wk.mk' rfl rfl trivial trivial ?_⟩
      all_goals try (refine BR.mk (fun _ => ?_) fun _ => trivial
                     exact ⟨Nat.le_of_ble_eq_true rfl, .inl ⟨rfl, _, rfl, arr_same (fun _ _ => rfl) fun j _ => rfl⟩⟩)
      all_goals refine Wv.tup (.cons (.int ?_) (.cons (.bool ?_) .nil))
      all_goals rw [shr32] at *
      all_goals rw [wrap_id (n := hL l + lL l / 4294967296) (by unfold i64; omega)] at *
      all_goals simp only [decide_eq_true_eq, decide_eq_false_iff_not] at *
      · rw [sumR, if_neg (show ¬ i64 (sumI l) by unfold i64; omega)]
      · exact (decide_eq_false (show ¬ i64 (sumI l) by unfold i64; omega)).symm
      · rw [sumR, if_neg (show ¬ i64 (sumI l) by unfold i64; omega)]
      · exact (decide_eq_false (show ¬ i64 (sumI l) by unfold i64; omega)).symm
      · have hn : i64 (sumI l) := by unfold i64; omega
        rw [sumR, if_pos hn, and32, wrap_id (n := _ * 4294967296) (by unfold i64; omega), show (hL l + lL l / 4294967296) * 4294967296 + lL l % 4294967296 = sumI l from by omega, wrap_id hn]
      · exact (decide_eq_true (show i64 (sumI l) by unfold i64; omega)).symm
noncomputable def h_rsum : List AV → St → Res
  | [.hs i 0 n 3 none], m => match m.h i with
    | some (.arr T 3 n' f) => @Res.need (T = 34 ∧ n' = n ∧ n ≤ 1000 ∧ f = vF (lO n f) ∧ (∀ x ∈ lO n f, x.s.length ≤ 1000000) ∧ ∀ x ∈ lO n f, i64 (intV x)) (Classical.propDecidable _) (.tup [.int .i64 (sumR (lO n f)), .bool (decide (i64 (sumI (lO n f))))])
        (m.within (St.small [.arr 34 3 n f] []) (rowOf (lO n f)) [i] [])
    | _ => .fail
  | _, _ => .fail
theorem h_rsum_ok (xs : List AV) (m : St) : HRok Tryz.prog GV 63 xs m (h_rsum xs m) := by
  unfold h_rsum
  split
  · rename_i i n
    split
    · rename_i T n' f hi
      rintro ⟨rfl, rfl, hn, hf, hs, hx⟩
      have h := hc_rsum (lO n' f) (by rw [lO_len]; exact hn) hs hx
      rw [lO_len, ← hf] at h
      exact hc_small h [i] [] (Nat.le_of_ble_eq_true rfl) (Nat.le_refl _) rfl (by simp) (by simp) ⟨⟨fun j hj => by rw [hf]; exact under_V rfl, _, hi, fits_V (fun q _ => by rw [hf]; rfl)⟩, trivial⟩ trivial
    · trivial
  · trivial

end Go.Proofs.YtejepcnoflahkaaGreatDoor
end

section
namespace Go.Proofs.YtejepcnoflahkaaGreatDoor
open Go Go.Ab
set_option linter.unusedVariables false
set_option linter.unusedSimpArgs false
set_option maxRecDepth 100000
set_option maxHeartbeats 8000000

theorem ddp_snoc (x : V) : ∀ (l S : List V), ddp S (l ++ [x]) = ddp S l ++ (if x ∈ S ∨ x ∈ l then [] else [x])
  | [], S => by simp [ddp]
  | v :: l, S => by
    rw [List.cons_append]
    unfold ddp
    by_cases h : v ∈ S
    · rw [if_pos h, if_pos h, ddp_snoc x l S]
      have : (x ∈ S ∨ x ∈ v :: l) ↔ (x ∈ S ∨ x ∈ l) := by
        rw [List.mem_cons]
        constructor
        · rintro (a | rfl | a)
          · exact .inl a
          · exact .inl h
          · exact .inr a
        · rintro (a | a)
          · exact .inl a
          · exact .inr (.inr a)
      simp only [this]
    · rw [if_neg h, if_neg h, ddp_snoc x l (v :: S), List.cons_append]
      have : (x ∈ S ∨ x ∈ v :: l) ↔ (x ∈ v :: S ∨ x ∈ l) := by
        rw [List.mem_cons, List.mem_cons]
        constructor
        · rintro (a | a | a)
          · exact .inl (.inr a)
          · exact .inl (.inl a)
          · exact .inr a
        · rintro ((a | a) | a)
          · exact .inr (.inl a)
          · exact .inl a
          · exact .inr (.inr a)
      simp only [this]
theorem live_snoc (l : List V) (x : V) : live (l ++ [x]) = live l ++ (if x.k = 0 then [] else [x]) := by
  have : live (l ++ [x]) = live l ++ live [x] := List.filter_append ..
  rw [this, live_cons]; rfl
/-- does a value count behind others? -/
def okC (name : List UInt8) (d : Bool) (l : List V) (x : V) : Bool := (name == sStar || decide (x.k ≠ 0)) && !(d && decide (x ∈ cntL name d l))
theorem cnt_snoc {name : List UInt8} {d : Bool} (hd : (d && name == sStar) = false) (l : List V) (x : V) : cntL name d (l ++ [x]) = cntL name d l ++ (if okC name d l x = true then [x] else []) := by
  unfold okC
  by_cases hs : name = sStar
  · subst hs
    have : d = false := by simpa using hd
    subst this
    simp [cntL]
  · have h1 : (name == sStar) = false := by simpa using hs
    rw [h1]
    unfold cntL
    rw [if_neg hs, if_neg hs]
    cases d with
    | false =>
      simp only [Bool.false_eq_true, if_false]
      rw [live_snoc]
      by_cases hk : x.k = 0 <;> simp [hk]
    | true =>
      simp only [if_true]
      rw [live_snoc]
      by_cases hk : x.k = 0
      · simp [hk]
      · rw [if_neg hk, ddp_snoc]
        simp only [ddp_mem, hk]
        by_cases hm : x ∈ live l <;> simp [hm, hk]
theorem cnt_nil (name : List UInt8) (d : Bool) : cntL name d [] = [] := by
  unfold cntL
  repeat' split
  all_goals rfl
theorem bne_dec (n : Int) : (n != 0) = decide (n ≠ 0) := by
  by_cases h : n = 0
  · rw [h]; rfl
  · rw [decide_eq_true h]; simpa using h
theorem len_big {v : V} (h : right v = true) : v.s.length ≤ 9223372036854775807 := Nat.le_trans (right_len h) (by decide)
theorem cmp_ne {a b : V} (ha : right a = true) (hb : right b = true) : (compareV a b != 0) = !decide (a = b) := by
  by_cases h : a = b
  · rw [decide_eq_true h, bne, (acv_zero ha hb).2 h]; rfl
  · rw [decide_eq_false h, bne, beq_false_of_ne fun e => h ((acv_zero ha hb).1 e)]
theorem in_take {L : List V} {x : V} {k : Nat} (h : k < L.length) : decide (x ∈ L.take (k + 1)) = (decide (x ∈ L.take k) || decide (L.getD k null = x)) := by
  rw [take_snoc h]
  by_cases h1 : x ∈ L.take k <;> by_cases h2 : L.getD k null = x <;> simp [h1, h2, eq_comm]
  all_goals first | exact h2 | exact fun e => h2 e.symm | exact h2.symm
theorem snoc_at (L : List V) (x : V) (g : Nat → AV) (hg : g 0 = encV x) (j : Nat) (hj : j < L.length + 1) : joinF L.length (vF L) g j = vF (L ++ [x]) j := by
  unfold joinF vF
  by_cases h : j < L.length
  · have e : Nat.blt j L.length = true := by simpa [Nat.blt_eq] using h
    rw [e]
    simp only [List.getD_eq_getElem?_getD]
    rw [List.getElem?_append_left h]
  · have hj' : j = L.length := by omega
    subst hj'
    have : Nat.blt L.length L.length = false := by
      cases hh : Nat.blt L.length L.length with
      | false => rfl
      | true => rw [Nat.blt_eq] at hh; exact absurd hh h
    rw [this, Nat.sub_self]
    simp only [hg, List.getD_eq_getElem?_getD]
    rw [List.getElem?_append_right (Nat.le_refl _), Nat.sub_self]
    rfl
noncomputable def ET8 : Env := { ET7 with gp := true, ap := false }
theorem ET8_ok : EnvOk Tryz.prog ET8 := ⟨ET7_ok.g, ET7_ok.s, ET7_ok.t, ET7_ok.h⟩
set_option smartUnfolding false in
theorem hc_rcounts (name : List UInt8) (d : Bool) (l : List V) (hd : (d && name == sStar) = false) (hl : l.length ≤ 1000) (hr : ∀ x ∈ l, right x = true) :
    HC Tryz.prog GV 62 [.str name, .bool d, .sl .no l.length (vF l)] (St.small [] []) (.hs 0 0 (cntL name d l).length 3 none) (rowOf (cntL name d l)) := by
  refine hc_of ET8_ok mixed (show Tryz.prog.funcs[62]? = some Tryz.f62 from rfl) (Nat.le_of_ble_eq_true rfl) (Nat.le_of_ble_eq_true rfl) ?_
  refine loop_famM ET8_ok mixed (σ := Nat) (fun i => i ≤ l.length) (fun i => l.length - i) 0 (Nat.zero_le _) 0 1 0 [] [0, 1, 2] (fun i => [(7, .hs 0 0 (cntL name d (l.take i)).length 3 none), (8, .int .i64 i)]) [] (fun i => [(0, .arr 34 3 (cntL name d (l.take i)).length (vF (cntL name d (l.take i))))]) (fun _ => []) ?_ ?_ ?_ ?_ ?_ ?_
  · rfl
  · rfl
  · rfl
  · rfl
  · refine Wk.mk' rfl rfl trivial ?_ ?_
    repeat' (refine BR.mk (fun _ => ?_) (fun _ => ?_))
    any_goals first | exact trivial | exact Wv.any _ | (refine Wv.int ?_; with_reducible rfl) | (refine Wv.str ?_; with_reducible rfl) | (refine Wv.bool ?_; with_reducible rfl) | refine Wv.int ?_ | refine Wv.str ?_ | refine Wv.bool ?_ | exact Wv.same rfl
    · rw [show cntL name d (l.take 0) = [] from cnt_nil _ _]
      exact Wv.none rfl (by decide) rfl
    · rfl
    · rw [show cntL name d (l.take 0) = [] from cnt_nil _ _]
      exact ⟨Nat.le_of_ble_eq_true rfl, .inr ⟨Nat.le_refl _, rfl, _, _, _, rfl⟩⟩
  · intro i hil
    by_cases hlt : i < l.length
    · have k1 : decide ((i : Int) < (l.length : Int)) = true := decide_eq_true (by omega)
      have hxm := getD_mem hlt
      have hLm : ∀ y ∈ cntL name d (l.take i), right y = true := fun y hy => hr y (List.mem_of_mem_take (cnt_mem hy))
      have hLl : (cntL name d (l.take i)).length ≤ 1000 := Nat.le_trans (cnt_len _ _ _) (by rw [List.length_take]; omega)
      have hsn := cnt_snoc hd (l.take i) (l.getD i null)
      rw [← take_snoc hlt] at hsn
      generalize hLg : cntL name d (l.take i) = L at hLm hLl hsn ⊢
      repeat' (refine BR.mk (fun h => ?_) (fun h => ?_) <;> first | with_reducible exact Bool.noConfusion h | with_reducible exact Bool.noConfusion (k1.symm.trans h) | skip)
      rotate_left
      · exact ⟨⟨by omega, by omega⟩, rfl, rfl⟩
      all_goals
        refine loop_fam ET8_ok mixed (σ := Nat × Bool) (fun p => p.1 ≤ L.length ∧ p.2 = ((name == sStar || decide ((l.getD i null).k ≠ 0)) && !(d && decide (l.getD i null ∈ L.take p.1)))) (fun p => L.length - p.1) (0, (name == sStar || decide ((l.getD i null).k ≠ 0))) ⟨Nat.zero_le _, by simp⟩ 1 0 [0, 1, 2, 7, 8] (fun p => [(9, .bool p.2), (10, .int .i64 p.1)]) [0] (fun _ => []) (fun _ => []) ?_ ?_ ?_ ?_
        · rfl
        · rfl
        · refine Wk.mk' rfl rfl trivial ?_ ?_
          repeat' (refine BR.mk (fun _ => ?_) (fun _ => ?_))
          any_goals first | exact trivial | exact Wv.any _ | (refine Wv.int ?_; with_reducible rfl) | (refine Wv.str ?_; with_reducible rfl) | (refine Wv.bool ?_; with_reducible rfl) | refine Wv.int ?_ | refine Wv.str ?_ | refine Wv.bool ?_ | exact Wv.same rfl
          · first
            | (have h0 : (name == sStar) = true := by assumption
               rw [h0]; rfl)
            | (have h0 : (name == sStar) = false := by assumption
               rw [h0, Bool.false_or]
               show ((l.getD i null).k != 0) = _
               exact bne_dec _)
          · rfl
          · exact ⟨Nat.le_of_ble_eq_true rfl, .inl ⟨rfl, _, rfl, arr_same (fun _ _ => rfl) fun j _ => rfl⟩⟩
        · rintro ⟨k, b⟩ ⟨hk, hb⟩
          simp only at hk hb
          by_cases hin : k < L.length ∧ d = true
          · obtain ⟨hkl, rfl⟩ := hin
            have q1 : decide ((k : Int) < (L.length : Int)) = true := decide_eq_true (by omega)
            have z1 : (0 : Int) ≤ (k : Int) ∧ (k : Int) < (L.length : Int) := ⟨by omega, by omega⟩
            have z2 : 0 + ((k : Int)).toNat < L.length := by omega
            have zi : (0 : Int) ≤ (i : Int) ∧ (i : Int) < (l.length : Int) := ⟨by omega, by omega⟩
            have hLk := hLm _ (getD_mem hkl)
            have hxr := hr _ hxm
            have e0 : 0 + ((k : Int)).toNat = k := by omega
            have z3 : (L.getD (0 + ((k : Int)).toNat) null).s.length ≤ 9223372036854775807 ∧ (l.getD ((i : Int)).toNat null).s.length ≤ 9223372036854775807 := by
              rw [e0]; exact ⟨len_big hLk, len_big hxr⟩
            have hI : ∀ c : Bool, c = (b && !decide (L.getD k null = l.getD i null)) → c = ((name == sStar || decide ((l.getD i null).k ≠ 0)) && !(true && decide (l.getD i null ∈ L.take (k + 1)))) := fun c hc => by
              rw [hc, hb, in_take hkl]
              generalize (name == sStar || decide ((l.getD i null).k ≠ 0)) = p
              generalize decide (l.getD i null ∈ L.take k) = q
              generalize decide (L.getD k null = l.getD i null) = r
              cases p <;> cases q <;> cases r <;> rfl
            cases b with
            | true =>
              repeat' (refine BR.mk (fun h => ?_) (fun h => ?_) <;> first | with_reducible exact Bool.noConfusion h | with_reducible exact Bool.noConfusion (q1.symm.trans h) | skip)
              · exact (show commutes _ _ = true by kernel_rfl)
              · exact ⟨z1, rfl⟩
              · exact ⟨z2, rfl⟩
              · exact ⟨zi, rfl, rfl⟩
              · exact z3
              · refine Again.fam (k + 1, true && !decide (L.getD k null = l.getD i null)) ⟨hkl, hI _ rfl⟩ (by show L.length - (k + 1) < L.length - k; omega) rfl rfl rfl rfl trivial ?_ ?_
                · repeat' (refine BR.mk (fun _ => ?_) (fun _ => ?_))
                  any_goals first | exact trivial | exact Wv.any _ | (refine Wv.int ?_; with_reducible rfl) | (refine Wv.str ?_; with_reducible rfl) | (refine Wv.bool ?_; with_reducible rfl) | refine Wv.int ?_ | refine Wv.str ?_ | refine Wv.bool ?_ | exact Wv.same rfl
                  · show (compareV (L.getD (0 + ((k : Int)).toNat) null) (l.getD i null) != 0) = _
                    rw [e0, Bool.true_and]
                    exact cmp_ne hLk hxr
                  · exact (wrap_id (by unfold i64; omega)).trans (by omega)
                · refine BR.mk (fun _ => ?_) fun _ => trivial
                  exact ⟨Nat.le_of_ble_eq_true rfl, .inl ⟨rfl, _, rfl, arr_same (fun _ _ => rfl) fun j _ => rfl⟩⟩
            | false =>
              repeat' (refine BR.mk (fun h => ?_) (fun h => ?_) <;> first | with_reducible exact Bool.noConfusion h | with_reducible exact Bool.noConfusion (q1.symm.trans h) | skip)
              · exact (show commutes _ _ = true by kernel_rfl)
              · refine Again.fam (k + 1, false) ⟨hkl, hI _ (by simp)⟩ (by show L.length - (k + 1) < L.length - k; omega) rfl rfl rfl rfl trivial ?_ ?_
                · repeat' (refine BR.mk (fun _ => ?_) (fun _ => ?_))
                  any_goals first | exact trivial | exact Wv.any _ | (refine Wv.int ?_; with_reducible rfl) | (refine Wv.str ?_; with_reducible rfl) | (refine Wv.bool ?_; with_reducible rfl) | refine Wv.int ?_ | refine Wv.str ?_ | refine Wv.bool ?_ | exact Wv.same rfl
                  all_goals first | rfl | exact (wrap_id (by unfold i64; omega)).trans (by omega)
                · refine BR.mk (fun _ => ?_) fun _ => trivial
                  exact ⟨Nat.le_of_ble_eq_true rfl, .inl ⟨rfl, _, rfl, arr_same (fun _ _ => rfl) fun j _ => rfl⟩⟩
          · have q1 : decide ((k : Int) < (L.length : Int)) = true → d = true → False := fun a b => hin ⟨by have := of_decide_eq_true a; omega, b⟩
            have zi : (0 : Int) ≤ (i : Int) ∧ (i : Int) < (l.length : Int) := ⟨by omega, by omega⟩
            have hok : okC name d (l.take i) (l.getD i null) = b := by
              unfold okC
              rw [hLg, hb]
              cases d with
              | false => rfl
              | true => rw [List.take_of_length_le (by have : ¬ k < L.length := fun h => hin ⟨h, rfl⟩; omega)]
            have w1 : IntKind.i64.wrap ((i : Int) + 1) = ((i + 1 : Nat) : Int) := (wrap_id (by unfold i64; omega)).trans (by omega)
            rw [hok] at hsn
            cases b with
            | true =>
              have hsn : cntL name d (l.take (i + 1)) = L ++ [l.getD i null] := hsn
              have hln : L.length + 1 = (cntL name d (l.take (i + 1))).length := by rw [hsn, List.length_append]; rfl
              repeat' (refine BR.mk (fun h => ?_) (fun h => ?_) <;> first | with_reducible exact Bool.noConfusion h | with_reducible exact (q1 (by assumption) h).elim | skip)
              all_goals first
                | exact ⟨zi, rfl, rfl⟩
                | exact ⟨rfl, rfl, rfl, rfl, Nat.le_refl _, Nat.le_of_ble_eq_true rfl, rfl, by show (L.length + 1) * 32 ≤ _; omega, by show L.length + 1 ≤ _; omega, lt_one rfl, lt_one rfl⟩
                | skip
              all_goals
                refine Again.famM (i + 1) [(0, 1)] hlt (by show l.length - (i + 1) < l.length - i; omega) rfl rfl rfl rfl trivial ?_ ?_
                · repeat' (refine BR.mk (fun _ => ?_) (fun _ => ?_))
                  any_goals first | exact trivial | exact Wv.any _ | (refine Wv.int ?_; with_reducible rfl) | (refine Wv.str ?_; with_reducible rfl) | (refine Wv.bool ?_; with_reducible rfl) | refine Wv.int ?_ | refine Wv.str ?_ | refine Wv.bool ?_ | exact Wv.same rfl
                  · exact Wv.moved rfl rfl rfl hln
                  · exact w1
                · refine BR.mk (fun _ => ?_) fun _ => trivial
                  refine ⟨Nat.le_of_ble_eq_true rfl, .inl ⟨rfl, _, rfl, ?_⟩⟩
                  rw [hsn, List.length_append]
                  exact arr_same (fun j hj => snoc_at L _ _ rfl j hj) fun j _ => rfl
            | false =>
              have hsn : cntL name d (l.take (i + 1)) = L := hsn.trans (List.append_nil _)
              repeat' (refine BR.mk (fun h => ?_) (fun h => ?_) <;> first | with_reducible exact Bool.noConfusion h | with_reducible exact (q1 (by assumption) h).elim | skip)
              all_goals
                refine Again.famM (i + 1) [] hlt (by show l.length - (i + 1) < l.length - i; omega) rfl rfl rfl rfl trivial ?_ ?_
                · repeat' (refine BR.mk (fun _ => ?_) (fun _ => ?_))
                  any_goals first | exact trivial | exact Wv.any _ | (refine Wv.int ?_; with_reducible rfl) | (refine Wv.str ?_; with_reducible rfl) | (refine Wv.bool ?_; with_reducible rfl) | refine Wv.int ?_ | refine Wv.str ?_ | refine Wv.bool ?_ | exact Wv.same rfl
                  · rw [hsn]; exact Wv.same rfl
                  · exact w1
                · refine BR.mk (fun _ => ?_) fun _ => trivial
                  refine ⟨Nat.le_of_ble_eq_true rfl, .inl ⟨rfl, _, rfl, ?_⟩⟩
                  rw [hsn]
                  exact arr_same (fun _ _ => rfl) fun j _ => rfl
    · have k1 : decide ((i : Int) < (l.length : Int)) = false := decide_eq_false (by omega)
      obtain rfl : i = l.length := by omega
      rw [List.take_length]
      repeat' (refine BR.mk (fun h => ?_) (fun h => ?_) <;> first | with_reducible exact Bool.noConfusion h | with_reducible exact Bool.noConfusion (k1.symm.trans h) | skip)
      refine Go.Ab.Left.mk (Nat.zero_le _) ⟨[], fun _ _ => rfl, Wv.same rfl, Wk.mk' rfl rfl trivial trivial ?_⟩
      refine BR.mk (fun _ => ?_) fun _ => trivial
      exact ⟨Nat.le_of_ble_eq_true rfl, .inl ⟨rfl, _, rfl, arr_same (fun _ _ => rfl) fun j _ => rfl⟩⟩
noncomputable def h_rcounts : List AV → St → Res
  | [.str name, .bool d, .sl .no n f], m => @Res.need ((d && name == sStar) = false ∧ n ≤ 1000 ∧ f = vF (lO n f) ∧ ∀ x ∈ lO n f, right x = true) (Classical.propDecidable _) (.hs m.nx 0 (cntL name d (lO n f)).length 3 none) (m.within (St.small [] []) (rowOf (cntL name d (lO n f))) [] [])
  | _, _ => .fail
theorem h_rcounts_ok (xs : List AV) (m : St) : HRok Tryz.prog GV 62 xs m (h_rcounts xs m) := by
  unfold h_rcounts
  split
  · rename_i name d n f
    rintro ⟨hd, hn, hf, hr⟩
    have h := hc_rcounts name d (lO n f) hd (by rw [lO_len]; exact hn) hr
    rw [lO_len, ← hf] at h
    exact hc_small h [] [] (Nat.le_of_ble_eq_true rfl) (Nat.le_refl _) rfl (by simp) (by simp) trivial trivial
  · trivial
noncomputable def ET9 : Env := ET8.addH 62 h_rcounts
theorem ET9_ok : EnvOk Tryz.prog ET9 := Env.addH_ok ET8_ok (by kernel_rfl) h_rcounts_ok
noncomputable def ET10 : Env := ET9.addH 63 h_rsum
theorem ET10_ok : EnvOk Tryz.prog ET10 := Env.addH_ok ET9_ok (by kernel_rfl) h_rsum_ok

end Go.Proofs.YtejepcnoflahkaaGreatDoor
end

section
namespace Go.Proofs.YtejepcnoflahkaaGreatDoor
open Go Go.Ab
set_option linter.unusedVariables false
set_option linter.unusedSimpArgs false
set_option maxRecDepth 100000
set_option maxHeartbeats 8000000

theorem fin_cnt {name : List UInt8} (h : name = sCount ∨ name = sStar) (L : List V) : finalS name (totA name L) = ⟨numV L.length, 0⟩ := by
  rcases h with rfl | rfl <;> rfl
theorem sum_over {L : List V} (h : ∀ x ∈ L, i64 (intV x)) (hl : L.length ≤ 1000) : overS (sumP L).1 (sumP L).2 = fitR (sumI L) := by
  have hb := sumI_le L h
  rw [sum_is L h]
  exact over_is _ (by omega)
theorem fin_total {L : List V} (h : ∀ x ∈ L, i64 (intV x)) (hl : L.length ≤ 1000) : finalS sTotal (totA sTotal L) = fitR (sumI L) := sum_over h hl
theorem fin_nil {name : List UInt8} (h : name = sSum ∨ name = sMin ∨ name = sMax ∨ name = sConcat) : finalS name (totA name []) = ⟨null, 0⟩ := by
  rcases h with rfl | rfl | rfl | rfl <;> rfl
theorem len_ne {L : List V} (h : L ≠ []) : ¬((L.length : Int) = 0) := by
  cases L with
  | nil => exact absurd rfl h
  | cons x l => simp only [List.length_cons]; omega
theorem fin_sum {L : List V} (hn : L ≠ []) (h : ∀ x ∈ L, i64 (intV x)) (hl : L.length ≤ 1000) : finalS sSum (totA sSum L) = fitR (sumI L) := by
  rw [← sum_over h hl]
  unfold finalS
  rw [if_neg (by decide), if_neg (by decide), if_neg (by decide), if_neg (fun e => len_ne hn e.2), if_neg (by decide)]
  rfl
theorem rbest_min (x : V) : ∀ l : List V, (∀ y ∈ l, compareV x y ≤ 0) → l.foldl (bstA (-1)) (some x) = some x
  | [], _ => rfl
  | y :: l, h => by
    have h1 := h y (by simp)
    have h2 := acv_anti x y
    have e : bstA (-1) (some x) y = some x := by
      show (if 0 < -1 * compareV y x then some y else some x) = some x
      rw [if_neg (by omega)]
    rw [List.foldl_cons, e]
    exact rbest_min x l fun z hz => h z (by simp [hz])
theorem rbest_max : ∀ (l : List V) (b : V), Srt (b :: l) → (∀ y ∈ b :: l, right y = true) → l.foldl (bstA 1) (some b) = some ((b :: l).getLast (by simp))
  | [], b, _, _ => rfl
  | y :: l, b, h, hr => by
    obtain ⟨h1, h2⟩ := List.pairwise_cons.1 h
    have h3 := h1 y (by simp)
    have h4 := acv_anti b y
    have e : bstA 1 (some b) y = some y := by
      show (if 0 < 1 * compareV y b then some y else some b) = some y
      by_cases h5 : 0 < 1 * compareV y b
      · rw [if_pos h5]
      · rw [if_neg h5, (acv_zero (hr y (by simp)) (hr b (by simp))).1 (by omega)]
    rw [List.foldl_cons, e, rbest_max l y h2 fun z hz => hr z (by simp [hz])]
    simp
theorem getD_last (l : List V) (h : l ≠ []) : l.getD (l.length - 1) null = l.getLast h := by
  rw [List.getD_eq_getElem?_getD, List.getLast_eq_getElem, List.getElem?_eq_getElem (by have := List.length_pos_iff.2 h; omega)]
  rfl
theorem sort_ne {L : List V} (h : L ≠ []) : sortV L ≠ [] := fun e => h (List.length_eq_zero_iff.1 (by rw [← sort_len, e]; rfl))
theorem fin_perm {name : List UInt8} {L : List V} (hr : ∀ x ∈ L, right x = true) : finalS name (totA name L) = finalS name (totA name (sortV L)) := tot_perm (sort_perm L).symm hr
theorem fin_min {L : List V} (hn : L ≠ []) (hr : ∀ x ∈ L, right x = true) : finalS sMin (totA sMin L) = ⟨(sortV L).getD 0 null, 0⟩ := by
  rw [fin_perm hr]
  show (⟨(bestP (-1) (sortV L)).getD null, 0⟩ : R) = _
  have hs := sort_srt L
  have hz := sort_ne hn
  cases h : sortV L with
  | nil => exact absurd h hz
  | cons x l =>
    rw [h] at hs
    have : bestP (-1) (x :: l) = some x := rbest_min x l (List.pairwise_cons.1 hs).1
    rw [this]; rfl
theorem fin_max {L : List V} (hn : L ≠ []) (hr : ∀ x ∈ L, right x = true) : finalS sMax (totA sMax L) = ⟨(sortV L).getD ((sortV L).length - 1) null, 0⟩ := by
  rw [fin_perm hr]
  show (⟨(bestP 1 (sortV L)).getD null, 0⟩ : R) = _
  have hs := sort_srt L
  have hz := sort_ne hn
  have hr' : ∀ x ∈ sortV L, right x = true := fun x hx => hr x ((sort_perm L).mem_iff.1 hx)
  have hg := getD_last _ hz
  rw [hg]
  clear hg
  revert hz hs hr'
  cases sortV L with
  | nil => exact fun _ hz _ => absurd rfl hz
  | cons x l =>
    intro hs hz hr'
    have : bestP 1 (x :: l) = some ((x :: l).getLast (by simp)) := rbest_max l x hs hr'
    rw [this]; rfl
/-- the first i texts, joined -/
def jnT (S : List V) (i : Nat) : List UInt8 := Lib.join ((S.take i).map textV) [44]
theorem jn_one {S : List V} (h : S ≠ []) : jnT S 1 = textV (S.getD 0 null) := by
  cases S with
  | nil => exact absurd rfl h
  | cons x l => exact Lib.join_one _ _
theorem jn_step {S : List V} {i : Nat} (h0 : 0 < i) (h : i < S.length) : jnT S (i + 1) = (jnT S i ++ [44]) ++ textV (S.getD i null) := by
  obtain ⟨k, rfl⟩ : ∃ k, i = k + 1 := ⟨i - 1, by omega⟩
  cases S with
  | nil => exact absurd h (by simp)
  | cons x l =>
    unfold jnT
    simp only [List.length_cons] at h
    have hk : k < l.length := by omega
    simp only [List.take_succ_cons, List.map_cons, Lib.join_cons, List.map_take]
    have e : (l.map textV)[k]? = some (textV (l.getD k null)) := by
      rw [List.getElem?_map, List.getElem?_eq_getElem hk, List.getD_eq_getElem?_getD, List.getElem?_eq_getElem hk]; rfl
    have := Lib.joinTail_take_succ [44] (l.map textV) k _ e
    rw [this]
    simp [List.append_assoc, List.getD_eq_getElem?_getD]
theorem lens_le (S : List V) (h : ∀ x ∈ S, (textV x).length ≤ 65536) : ∀ l : List V, (∀ x ∈ l, x ∈ S) → lenL (l.map textV) ≤ 65536 * l.length
  | [], _ => by simp [lenL]
  | x :: l, hl => by
    have h1 := lens_le S h l fun y hy => hl y (by simp [hy])
    have h2 := h x (hl x (by simp))
    simp only [List.map_cons, lenL, List.length_cons]
    omega
theorem jn_le {S : List V} (h : ∀ x ∈ S, (textV x).length ≤ 65536) (i : Nat) (hl : S.length ≤ 1000) : (jnT S i).length ≤ 65537000 := by
  have h1 := join_le ((S.take i).map textV)
  have h2 := lens_le S h (S.take i) fun x hx => List.mem_of_mem_take hx
  have h3 : (S.take i).length ≤ 1000 := by rw [List.length_take]; omega
  unfold jnT
  rw [List.length_map] at h1
  omega
theorem rjoin_len : ∀ (T : List (List UInt8)), (Lib.join T [44]).length = T.length - 1 + lenL T
  | [] => rfl
  | x :: r => by
    have : ∀ r : List (List UInt8), (Lib.joinTail [44] r).length = r.length + lenL r := by
      intro r
      induction r with
      | nil => rfl
      | cons y r ih =>
        have e : Lib.joinTail [44] (y :: r) = ([44] ++ y) ++ Lib.joinTail [44] r := rfl
        rw [e, List.length_append, ih]
        simp only [List.length_append, List.length_cons, List.length_nil, lenL]
        omega
    rw [Lib.join_cons, List.length_append, this]
    simp only [List.length_cons, lenL]
    omega
theorem fin_join {L : List V} (hn : L ≠ []) : finalS sConcat (totA sConcat L) = if (jnT (sortV L) L.length).length > 65536 then ⟨null, 3⟩ else ⟨⟨2, 0, jnT (sortV L) L.length⟩, 0⟩ := by
  have e : finalS sConcat (totA sConcat L) = joinS L := by
    unfold finalS
    rw [if_neg (by decide), if_neg (by decide), if_neg (by decide), if_neg (fun e => len_ne hn e.2), if_pos rfl]
    rfl
  rw [e]
  unfold joinS jnT
  rw [← sort_len L, List.take_length, rjoin_len, List.length_map]
theorem seg_all (L : List V) : segSort L 0 L.length = sortV L := by
  unfold segSort
  simp
theorem seg_zero (L : List V) : segSort L 0 1 = L := seg_one L 0

end Go.Proofs.YtejepcnoflahkaaGreatDoor
end

section
namespace Go.Proofs.YtejepcnoflahkaaGreatDoor
open Go Go.Ab
set_option linter.unusedVariables false
set_option linter.unusedSimpArgs false
set_option maxRecDepth 100000
set_option maxHeartbeats 8000000

structure RF (L : List V) : Prop where
  len : L.length ≤ 1000
  r : ∀ x ∈ L, right x = true
  i : ∀ x ∈ L, i64 x.n
theorem RF.int {L : List V} (h : RF L) : ∀ x ∈ L, i64 (intV x) := fun x hx => aintV_i64 (h.i x hx)
theorem RF.cnt {L : List V} (h : RF L) (name : List UInt8) (d : Bool) : RF (cntL name d L) :=
  ⟨Nat.le_trans (cnt_len _ _ _) h.len, fun x hx => h.r x (cnt_mem hx), fun x hx => h.i x (cnt_mem hx)⟩
theorem fit_yes {n : Int} (h : i64 n) : fitR n = ⟨numV n, 0⟩ := by unfold fitR; rw [if_pos h]
theorem fit_no {n : Int} (h : ¬ i64 n) : fitR n = ⟨null, 20⟩ := by unfold fitR; rw [if_neg h]
theorem ren_vF (ρ θ : Nat → Nat) (L : List V) : (fun j => ren ρ θ (vF L j)) = vF L := funext fun _ => ren_V rfl
theorem lO_ren (ρ θ : Nat → Nat) (L : List V) : lO L.length (fun j => ren ρ θ (vF L j)) = L := by rw [ren_vF, lO_vF]
theorem RF.dsum {L : List V} (h : RF L) (ρ θ : Nat → Nat) : L.length ≤ 1000 ∧ (fun j => ren ρ θ (vF L j)) = vF (lO L.length fun j => ren ρ θ (vF L j)) ∧ (∀ x ∈ lO L.length fun j => ren ρ θ (vF L j), x.s.length ≤ 1000000) ∧ ∀ x ∈ lO L.length fun j => ren ρ θ (vF L j), i64 (intV x) := by
  rw [lO_ren, ren_vF]
  exact ⟨h.len, rfl, fun x hx => Nat.le_trans (right_len (h.r x hx)) (by decide), h.int⟩
theorem dcounts {name : List UInt8} {d : Bool} {l : List V} (hd : (d && name == sStar) = false) (h : RF l) : (d && name == sStar) = false ∧ l.length ≤ 1000 ∧ vF l = vF (lO l.length (vF l)) ∧ ∀ x ∈ lO l.length (vF l), right x = true := by
  rw [lO_vF]
  exact ⟨hd, h.len, rfl, h.r⟩
theorem len_b0 {L : List V} (h : L ≠ []) : ((L.length : Int) == 0) = false := by
  rw [beq_eq_false_iff_ne]; exact len_ne h
section
set_option smartUnfolding false
theorem rfin_count (d : Bool) (l : List V) (hd : (d && sCount == sStar) = false) (hR : RF l) : PC Tryz.prog GV 17 [.str sCount, .bool d, .sl .no l.length (vF l)] (encR (finalS sCount (totA sCount (cntL sCount d l)))) := by
  rw [show cntL sCount d l = cntL sCount d (lO l.length (vF l)) from by rw [lO_vF]]
  have hR' : RF (cntL sCount d (lO l.length (vF l))) := by rw [lO_vF]; exact hR.cnt _ _
  refine pc_fin ET10_ok mixed (show Tryz.prog.funcs[17]? = some Tryz.f17 from rfl) ?_
  repeat' (refine BR.mk (fun h => ?_) (fun h => ?_) <;> first | with_reducible exact Bool.noConfusion h | exact absurd h (by decide) | skip)
  · exact dcounts hd hR
  · exact Fini.mk rfl
theorem rfin_star (d : Bool) (l : List V) (hd : (d && sStar == sStar) = false) (hR : RF l) : PC Tryz.prog GV 17 [.str sStar, .bool d, .sl .no l.length (vF l)] (encR (finalS sStar (totA sStar (cntL sStar d l)))) := by
  rw [show cntL sStar d l = cntL sStar d (lO l.length (vF l)) from by rw [lO_vF]]
  have hR' : RF (cntL sStar d (lO l.length (vF l))) := by rw [lO_vF]; exact hR.cnt _ _
  refine pc_fin ET10_ok mixed (show Tryz.prog.funcs[17]? = some Tryz.f17 from rfl) ?_
  repeat' (refine BR.mk (fun h => ?_) (fun h => ?_) <;> first | with_reducible exact Bool.noConfusion h | exact absurd h (by decide) | skip)
  · exact dcounts hd hR
  · exact Fini.mk rfl
theorem rfin_total (d : Bool) (l : List V) (hd : (d && sTotal == sStar) = false) (hR : RF l) : PC Tryz.prog GV 17 [.str sTotal, .bool d, .sl .no l.length (vF l)] (encR (finalS sTotal (totA sTotal (cntL sTotal d l)))) := by
  rw [show cntL sTotal d l = cntL sTotal d (lO l.length (vF l)) from by rw [lO_vF]]
  have hR' : RF (cntL sTotal d (lO l.length (vF l))) := by rw [lO_vF]; exact hR.cnt _ _
  refine pc_fin ET10_ok mixed (show Tryz.prog.funcs[17]? = some Tryz.f17 from rfl) ?_
  have c1 : ∀ ρ θ : Nat → Nat, (!decide (i64 (sumI (lO (cntL sTotal d (lO l.length (vF l))).length fun j => ren ρ θ (vF (cntL sTotal d (lO l.length (vF l))) j))))) = true → ¬ i64 (sumI (cntL sTotal d (lO l.length (vF l)))) := fun ρ θ e => by
    rw [lO_ren] at e
    intro hh
    rw [decide_eq_true hh] at e
    exact Bool.noConfusion e
  have c2 : ∀ ρ θ : Nat → Nat, (!decide (i64 (sumI (lO (cntL sTotal d (lO l.length (vF l))).length fun j => ren ρ θ (vF (cntL sTotal d (lO l.length (vF l))) j))))) = false → i64 (sumI (cntL sTotal d (lO l.length (vF l)))) := fun ρ θ e => by
    rw [lO_ren] at e
    by_cases hh : i64 (sumI (cntL sTotal d (lO l.length (vF l))))
    · exact hh
    · rw [decide_eq_false hh] at e
      exact Bool.noConfusion e
  repeat' (refine BR.mk (fun h => ?_) (fun h => ?_) <;> first | with_reducible exact Bool.noConfusion h | exact absurd h (by decide) | skip)
  · exact dcounts hd hR
  · exact ⟨rfl, rfl, hR'.dsum _ _⟩
  · have hn := c1 _ _ (by assumption)
    refine Fini.mk ?_
    rw [fin_total hR'.int hR'.len, fit_no hn]; rfl
  · have hn := c2 _ _ (by assumption)
    refine Fini.mk ?_
    rw [fin_total hR'.int hR'.len, fit_yes hn]
    refine congrArg (fun n => encR ⟨numV n, 0⟩) ?_
    rw [lO_ren]
    show (if _ then _ else _) = _
    rw [if_pos hn]
theorem rfin_sum (d : Bool) (l : List V) (hd : (d && sSum == sStar) = false) (hR : RF l) : PC Tryz.prog GV 17 [.str sSum, .bool d, .sl .no l.length (vF l)] (encR (finalS sSum (totA sSum (cntL sSum d l)))) := by
  rw [show cntL sSum d l = cntL sSum d (lO l.length (vF l)) from by rw [lO_vF]]
  have hR' : RF (cntL sSum d (lO l.length (vF l))) := by rw [lO_vF]; exact hR.cnt _ _
  refine pc_fin ET10_ok mixed (show Tryz.prog.funcs[17]? = some Tryz.f17 from rfl) ?_
  have hz : (cntL sSum d (lO l.length (vF l))) = [] → finalS sSum (totA sSum (cntL sSum d (lO l.length (vF l)))) = ⟨null, 0⟩ := fun e => by rw [e]; exact fin_nil (.inl rfl)
  have k0 : (((cntL sSum d (lO l.length (vF l))).length : Int) == 0) = true → (cntL sSum d (lO l.length (vF l))) = [] := fun e => by
    by_cases hE : (cntL sSum d (lO l.length (vF l))) = []
    · exact hE
    · exact Bool.noConfusion ((len_b0 hE).symm.trans e)
  have k9 : (((cntL sSum d (lO l.length (vF l))).length : Int) == 0) = false → (cntL sSum d (lO l.length (vF l))) ≠ [] := fun e hE => by
    rw [hE] at e; exact Bool.noConfusion e
  have c1 : ∀ ρ θ : Nat → Nat, (!decide (i64 (sumI (lO (cntL sSum d (lO l.length (vF l))).length fun j => ren ρ θ (vF (cntL sSum d (lO l.length (vF l))) j))))) = true → ¬ i64 (sumI (cntL sSum d (lO l.length (vF l)))) := fun ρ θ e => by
    rw [lO_ren] at e
    intro hh
    rw [decide_eq_true hh] at e
    exact Bool.noConfusion e
  have c2 : ∀ ρ θ : Nat → Nat, (!decide (i64 (sumI (lO (cntL sSum d (lO l.length (vF l))).length fun j => ren ρ θ (vF (cntL sSum d (lO l.length (vF l))) j))))) = false → i64 (sumI (cntL sSum d (lO l.length (vF l)))) := fun ρ θ e => by
    rw [lO_ren] at e
    by_cases hh : i64 (sumI (cntL sSum d (lO l.length (vF l))))
    · exact hh
    · rw [decide_eq_false hh] at e
      exact Bool.noConfusion e
  repeat' (refine BR.mk (fun h => ?_) (fun h => ?_) <;> first | with_reducible exact Bool.noConfusion h | exact absurd h (by decide) | skip)
  · exact dcounts hd hR
  · exact Fini.mk (by rw [hz (k0 (by assumption))]; rfl)
  · exact ⟨rfl, rfl, hR'.dsum _ _⟩
  · have hn := c1 _ _ (by assumption)
    refine Fini.mk ?_
    rw [fin_sum (k9 (by assumption)) hR'.int hR'.len, fit_no hn]; rfl
  · have hn := c2 _ _ (by assumption)
    refine Fini.mk ?_
    rw [fin_sum (k9 (by assumption)) hR'.int hR'.len, fit_yes hn]
    refine congrArg (fun n => encR ⟨numV n, 0⟩) ?_
    rw [lO_ren]
    show (if _ then _ else _) = _
    rw [if_pos hn]
end

end Go.Proofs.YtejepcnoflahkaaGreatDoor
end

section
namespace Go.Proofs.YtejepcnoflahkaaGreatDoor
open Go Go.Ab
set_option linter.unusedVariables false
set_option linter.unusedSimpArgs false
set_option maxRecDepth 100000
set_option maxHeartbeats 8000000

theorem swap_vF2 (Q T : List V) (x y : V) (q : Nat) : upd (upd (vF (Q ++ y :: x :: T)) Q.length (encV x)) (Q.length + 1) (encV y) q = vF (Q ++ x :: y :: T) q := by
  rw [← swap_vF Q T x y q]
  by_cases h1 : q = Q.length
  · subst h1
    rw [upd_same, upd_ne _ _ (by omega), upd_same]
  · by_cases h2 : q = Q.length + 1
    · subst h2
      rw [upd_same, upd_ne _ _ (by omega), upd_same]
    · rw [upd_ne _ _ h2, upd_ne _ _ h1, upd_ne _ _ h1, upd_ne _ _ h2]
section
set_option smartUnfolding false
theorem rfin_min (d : Bool) (l : List V) (hd : (d && sMin == sStar) = false) (hR : RF l) : PC Tryz.prog GV 17 [.str sMin, .bool d, .sl .no l.length (vF l)] (encR (finalS sMin (totA sMin (cntL sMin d l)))) := by
  rw [show cntL sMin d l = cntL sMin d (lO l.length (vF l)) from by rw [lO_vF]]
  have hR' : RF (cntL sMin d (lO l.length (vF l))) := by rw [lO_vF]; exact hR.cnt _ _
  refine pc_fin ET10_ok mixed (show Tryz.prog.funcs[17]? = some Tryz.f17 from rfl) ?_
  have hz : (cntL sMin d (lO l.length (vF l))) = [] → finalS sMin (totA sMin (cntL sMin d (lO l.length (vF l)))) = ⟨null, 0⟩ := fun e => by rw [e]; exact fin_nil (by simp)
  have k0 : (((cntL sMin d (lO l.length (vF l))).length : Int) == 0) = true → (cntL sMin d (lO l.length (vF l))) = [] := fun e => by
    by_cases hE : (cntL sMin d (lO l.length (vF l))) = []
    · exact hE
    · exact Bool.noConfusion ((len_b0 hE).symm.trans e)
  have k9 : (((cntL sMin d (lO l.length (vF l))).length : Int) == 0) = false → (cntL sMin d (lO l.length (vF l))) ≠ [] := fun e hE => by
    rw [hE] at e; exact Bool.noConfusion e
  repeat' (refine BR.mk (fun h => ?_) (fun h => ?_) <;> first | with_reducible exact Bool.noConfusion h | exact absurd h (by decide) | skip)
  · exact dcounts hd hR
  · exact Fini.mk (by rw [hz (k0 (by assumption))]; rfl)
  have hne := k9 (by assumption)
  clear k0 k9 hz
  generalize (cntL sMin d (lO l.length (vF l))) = L at hR' hne ⊢
  have hn0 : 0 < L.length := List.length_pos_iff.2 hne
  have hL := hR'.len
  have hr := hR'.r
  have hseg : ∀ i, i ≤ L.length → (segSort L 0 i).length = L.length := fun i h1 => seg_len L 0 i (Nat.zero_le _) h1
  refine loop_fam ET10_ok mixed (σ := Nat) (fun i => 1 ≤ i ∧ i ≤ L.length) (fun i => L.length - i) 1 ⟨Nat.le_refl _, hn0⟩ 2 0 [0, 6, 7, 8] (fun i => [(13, .int .i64 i)]) [0] (fun i => [(1, .arr 34 3 L.length (vF (segSort L 0 i)))]) (fun _ => []) ?_ ?_ ?_ ?_
  · rfl
  · rfl
  · refine Wk.mk' rfl rfl trivial ?_ ?_
    repeat' (refine BR.mk (fun _ => ?_) (fun _ => ?_))
    any_goals first | exact trivial | exact Wv.any _ | (refine Wv.int ?_; with_reducible rfl) | (refine Wv.str ?_; with_reducible rfl) | (refine Wv.bool ?_; with_reducible rfl) | refine Wv.int ?_ | refine Wv.str ?_ | refine Wv.bool ?_ | exact Wv.same rfl
    all_goals first
      | rfl
      | exact ⟨Nat.le_of_ble_eq_true rfl, .inl ⟨rfl, _, rfl, WvL.same rfl⟩⟩
      | exact ⟨Nat.le_of_ble_eq_true rfl, .inl ⟨rfl, _, rfl, arr_same (fun j hj => by rw [seg_zero]; exact ren_V rfl) fun j _ => rfl⟩⟩
  · rintro i ⟨hi1, hi2⟩
    by_cases hib : i < L.length
    · have k1 : decide ((i : Int) < (L.length : Int)) = true := decide_eq_true (by omega)
      obtain ⟨x, hx⟩ : ∃ x, L[i]? = some x := ⟨_, List.getElem?_eq_getElem hib⟩
      have hSl : (sortV ((L.drop 0).take (i - 0))).length = i := by rw [sort_len, List.length_take, List.length_drop]; omega
      have w1 : IntKind.i64.wrap ((i : Int) + 1) = ((i + 1 : Nat) : Int) := (wrap_id (by unfold i64; omega)).trans (by omega)
      repeat' (refine BR.mk (fun h => ?_) (fun h => ?_) <;> first | with_reducible exact Bool.noConfusion h | with_reducible exact Bool.noConfusion (k1.symm.trans h) | skip)
      refine loop_fam ET10_ok mixed (σ := List V × List V) (fun p => sortV ((L.drop 0).take (i - 0)) = p.1 ++ p.2 ∧ ∀ y ∈ p.2, compareV x y < 0) (fun p => p.1.length) (sortV ((L.drop 0).take (i - 0)), []) ⟨by simp, by simp⟩ 2 0 [0, 6, 7, 8, 13]
        (fun p => [(14, .int .i64 ((p.1.length : Nat) : Int))]) [0] (fun p => [(1, .arr 34 3 L.length (vF ((p.1 ++ x :: p.2) ++ L.drop (i + 1))))]) (fun _ => []) ?_ ?_ ?_ ?_
      · rfl
      · rfl
      · refine Wk.mk' rfl rfl trivial ?_ ?_
        repeat' (refine BR.mk (fun _ => ?_) (fun _ => ?_))
        any_goals first | exact trivial | exact Wv.any _ | (refine Wv.int ?_; with_reducible rfl) | (refine Wv.str ?_; with_reducible rfl) | (refine Wv.bool ?_; with_reducible rfl) | refine Wv.int ?_ | refine Wv.str ?_ | refine Wv.bool ?_ | exact Wv.same rfl
        · show (i : Int) = (((sortV ((L.drop 0).take (i - 0))).length : Nat) : Int)
          rw [hSl]
        · exact ⟨Nat.le_of_ble_eq_true rfl, .inl ⟨rfl, _, rfl, WvL.same rfl⟩⟩
        · refine ⟨Nat.le_of_ble_eq_true rfl, .inl ⟨rfl, _, rfl, arr_same (fun j hj => ?_) fun j _ => rfl⟩⟩
          rw [seg_at hx]
          show vF ([] ++ _) j = vF ((sortV ((L.drop 0).take (i - 0)) ++ x :: []) ++ L.drop (i + 1)) j
          rw [List.append_assoc]; rfl
      · rintro ⟨A, B⟩ ⟨hS, hB⟩
        simp only at hS hB
        have hAB : A.length + B.length = i := by rw [← hSl, hS, List.length_append]
        have hLn : ((A ++ x :: B) ++ L.drop (i + 1)).length = L.length := by
          simp only [List.length_append, List.length_cons, List.length_drop]; omega
        have fin : (A = [] ∨ ∀ y ∈ A.getLast?, ¬ compareV x y < 0) → (A ++ x :: B) ++ L.drop (i + 1) = segSort L 0 (i + 1) := fun h => by
          refine ((seg_step (Nat.zero_le _) hx hS hB ?_ hr).trans ?_).symm
          · rcases h with rfl | h
            · simp
            · exact h
          · rfl
        rcases A.eq_nil_or_concat with rfl | ⟨A', y, eA⟩
        · have k2 : decide (((([] : List V).length : Nat) : Int) > 0) = false := rfl
          repeat' (refine BR.mk (fun h => ?_) (fun h => ?_) <;> first | with_reducible exact Bool.noConfusion h | with_reducible exact Bool.noConfusion (k2.symm.trans h) | skip)
          all_goals first | exact (show commutes _ _ = true by kernel_rfl) | skip
          have fin := fin (.inl rfl)
          refine Again.fam (i + 1) ⟨by omega, hib⟩ (by show L.length - (i + 1) < L.length - i; omega) rfl rfl rfl rfl trivial ?_ ?_
          · repeat' (refine BR.mk (fun _ => ?_) (fun _ => ?_))
            any_goals first | exact trivial | exact Wv.any _ | (refine Wv.int ?_; with_reducible rfl) | (refine Wv.str ?_; with_reducible rfl) | (refine Wv.bool ?_; with_reducible rfl) | refine Wv.int ?_ | refine Wv.str ?_ | refine Wv.bool ?_ | exact Wv.same rfl
            exact w1
          · repeat' (refine BR.mk (fun _ => ?_) (fun _ => ?_))
            any_goals first | exact trivial | exact Wv.any _ | (refine Wv.int ?_; with_reducible rfl) | (refine Wv.str ?_; with_reducible rfl) | (refine Wv.bool ?_; with_reducible rfl) | refine Wv.int ?_ | refine Wv.str ?_ | refine Wv.bool ?_ | exact Wv.same rfl
            · exact ⟨Nat.le_of_ble_eq_true rfl, .inl ⟨rfl, _, rfl, WvL.same rfl⟩⟩
            · refine ⟨Nat.le_of_ble_eq_true rfl, .inl ⟨rfl, _, rfl, arr_same (fun j hj => ?_) fun j _ => rfl⟩⟩
              rw [← fin]
        · rw [List.concat_eq_append] at eA
          subst eA
          have hJ : (A' ++ [y]).length = A'.length + 1 := by simp
          have wJ : IntKind.i64.wrap ((((A' ++ [y]).length : Nat) : Int) - 1) = ((A'.length : Nat) : Int) := by rw [wrap_id (by unfold i64; omega)]; omega
          have k2 : decide ((((A' ++ [y]).length : Nat) : Int) > 0) = true := decide_eq_true (by omega)
          have q1 : (((A' ++ [y]) ++ x :: B) ++ L.drop (i + 1)).getD (0 + ((((A' ++ [y]).length : Nat) : Int)).toNat) null = x := by
            have := at_last (A' ++ [y]) (B ++ L.drop (i + 1)) x
            rw [show 0 + ((((A' ++ [y]).length : Nat) : Int)).toNat = (A' ++ [y]).length from by omega]
            simpa only [List.append_assoc, List.cons_append] using this
          have q2 : (((A' ++ [y]) ++ x :: B) ++ L.drop (i + 1)).getD (0 + (IntKind.i64.wrap ((((A' ++ [y]).length : Nat) : Int) - 1)).toNat) null = y := by
            have := at_last A' (x :: (B ++ L.drop (i + 1))) y
            rw [wJ, show 0 + (((A'.length : Nat) : Int)).toNat = A'.length from by omega]
            simpa only [List.append_assoc, List.cons_append, List.nil_append] using this
          have z1 : (0 : Int) ≤ IntKind.i64.wrap ((((A' ++ [y]).length : Nat) : Int) - 1) ∧ IntKind.i64.wrap ((((A' ++ [y]).length : Nat) : Int) - 1) < (L.length : Int) := by rw [wJ]; exact ⟨by omega, by omega⟩
          have z2 : 0 + (IntKind.i64.wrap ((((A' ++ [y]).length : Nat) : Int) - 1)).toNat < L.length := by rw [wJ]; omega
          have z3 : (0 : Int) ≤ (((A' ++ [y]).length : Nat) : Int) ∧ (((A' ++ [y]).length : Nat) : Int) < (L.length : Int) := ⟨by omega, by omega⟩
          have z4 : 0 + ((((A' ++ [y]).length : Nat) : Int)).toNat < L.length := by omega
          have hxm : x ∈ L := List.mem_of_getElem? hx
          have hym : y ∈ L := by
            have h1 : y ∈ sortV ((L.drop 0).take (i - 0)) := by rw [hS]; simp
            exact List.mem_of_mem_drop (List.mem_of_mem_take ((sort_perm _).mem_iff.1 h1))
          have z5 : ((((A' ++ [y]) ++ x :: B) ++ L.drop (i + 1)).getD (0 + (IntKind.i64.wrap ((((A' ++ [y]).length : Nat) : Int) - 1)).toNat) null).s.length ≤ 9223372036854775807 ∧ ((((A' ++ [y]) ++ x :: B) ++ L.drop (i + 1)).getD (0 + ((((A' ++ [y]).length : Nat) : Int)).toNat) null).s.length ≤ 9223372036854775807 := by
            rw [q1, q2]; exact ⟨len_big (hr _ hym), len_big (hr _ hxm)⟩
          have hanti := acv_anti x y
          by_cases hc : compareV x y < 0
          · have k3 : decide (compareV ((((A' ++ [y]) ++ x :: B) ++ L.drop (i + 1)).getD (0 + (IntKind.i64.wrap ((((A' ++ [y]).length : Nat) : Int) - 1)).toNat) null) ((((A' ++ [y]) ++ x :: B) ++ L.drop (i + 1)).getD (0 + ((((A' ++ [y]).length : Nat) : Int)).toNat) null) > 0) = true := by
              rw [q1, q2]; exact decide_eq_true (by omega)
            repeat' (refine BR.mk (fun h => ?_) (fun h => ?_) <;> first | with_reducible exact Bool.noConfusion h | with_reducible exact Bool.noConfusion (k2.symm.trans h) | with_reducible exact Bool.noConfusion (k3.symm.trans h) | skip)
            all_goals first | with_reducible exact z5 | with_reducible exact ⟨z1, rfl⟩ | with_reducible exact ⟨z2, rfl⟩ | with_reducible exact ⟨z3, rfl⟩ | with_reducible exact ⟨z4, rfl⟩ | exact (show commutes _ _ = true by kernel_rfl) | exact ⟨z1, rfl⟩ | exact ⟨z3, rfl⟩ | skip
            refine Again.fam (A', y :: B) ⟨by simpa using hS, fun z hz => ?_⟩ (by show A'.length < (A' ++ [y]).length; omega) rfl rfl rfl rfl trivial ?_ ?_
            · rcases List.mem_cons.1 hz with rfl | hz
              · exact hc
              · exact hB z hz
            · repeat' (refine BR.mk (fun _ => ?_) (fun _ => ?_))
              any_goals first | exact trivial | exact Wv.any _ | (refine Wv.int ?_; with_reducible rfl) | (refine Wv.str ?_; with_reducible rfl) | (refine Wv.bool ?_; with_reducible rfl) | refine Wv.int ?_ | refine Wv.str ?_ | refine Wv.bool ?_ | exact Wv.same rfl
              exact wJ
            · repeat' (refine BR.mk (fun _ => ?_) (fun _ => ?_))
              any_goals first | exact trivial | exact Wv.any _ | (refine Wv.int ?_; with_reducible rfl) | (refine Wv.str ?_; with_reducible rfl) | (refine Wv.bool ?_; with_reducible rfl) | refine Wv.int ?_ | refine Wv.str ?_ | refine Wv.bool ?_ | exact Wv.same rfl
              · exact ⟨Nat.le_of_ble_eq_true rfl, .inl ⟨rfl, _, rfl, WvL.same rfl⟩⟩
              · refine ⟨Nat.le_of_ble_eq_true rfl, .inl ⟨rfl, _, rfl, arr_same (fun j hj => ?_) fun j _ => rfl⟩⟩
                have hs := swap_vF2 A' (B ++ L.drop (i + 1)) x y j
                have e1 : A' ++ y :: x :: (B ++ L.drop (i + 1)) = ((A' ++ [y]) ++ x :: B) ++ L.drop (i + 1) := by simp
                have e2 : A' ++ x :: y :: (B ++ L.drop (i + 1)) = (A' ++ x :: y :: B) ++ L.drop (i + 1) := by simp
                rw [e1, e2] at hs
                refine Eq.trans ?_ hs
                show upd (upd (vF (((A' ++ [y]) ++ x :: B) ++ L.drop (i + 1))) (0 + (IntKind.i64.wrap ((((A' ++ [y]).length : Nat) : Int) - 1)).toNat) (encV ((((A' ++ [y]) ++ x :: B) ++ L.drop (i + 1)).getD (0 + ((((A' ++ [y]).length : Nat) : Int)).toNat) null))) (0 + ((((A' ++ [y]).length : Nat) : Int)).toNat) (encV ((((A' ++ [y]) ++ x :: B) ++ L.drop (i + 1)).getD (0 + (IntKind.i64.wrap ((((A' ++ [y]).length : Nat) : Int) - 1)).toNat) null)) j = _
                rw [q1, q2, wJ, show 0 + (((A'.length : Nat) : Int)).toNat = A'.length from by omega, show 0 + ((((A' ++ [y]).length : Nat) : Int)).toNat = A'.length + 1 from by omega]
          · have k3 : decide (compareV ((((A' ++ [y]) ++ x :: B) ++ L.drop (i + 1)).getD (0 + (IntKind.i64.wrap ((((A' ++ [y]).length : Nat) : Int) - 1)).toNat) null) ((((A' ++ [y]) ++ x :: B) ++ L.drop (i + 1)).getD (0 + ((((A' ++ [y]).length : Nat) : Int)).toNat) null) > 0) = false := by
              rw [q1, q2]; exact decide_eq_false (by omega)
            repeat' (refine BR.mk (fun h => ?_) (fun h => ?_) <;> first | with_reducible exact Bool.noConfusion h | with_reducible exact Bool.noConfusion (k2.symm.trans h) | with_reducible exact Bool.noConfusion (k3.symm.trans h) | skip)
            all_goals first | with_reducible exact z5 | with_reducible exact ⟨z1, rfl⟩ | with_reducible exact ⟨z2, rfl⟩ | with_reducible exact ⟨z3, rfl⟩ | with_reducible exact ⟨z4, rfl⟩ | exact (show commutes _ _ = true by kernel_rfl) | skip
            have fin := fin (.inr (by simpa using hc))
            refine Again.fam (i + 1) ⟨by omega, hib⟩ (by show L.length - (i + 1) < L.length - i; omega) rfl rfl rfl rfl trivial ?_ ?_
            · repeat' (refine BR.mk (fun _ => ?_) (fun _ => ?_))
              any_goals first | exact trivial | exact Wv.any _ | (refine Wv.int ?_; with_reducible rfl) | (refine Wv.str ?_; with_reducible rfl) | (refine Wv.bool ?_; with_reducible rfl) | refine Wv.int ?_ | refine Wv.str ?_ | refine Wv.bool ?_ | exact Wv.same rfl
              exact w1
            · repeat' (refine BR.mk (fun _ => ?_) (fun _ => ?_))
              any_goals first | exact trivial | exact Wv.any _ | (refine Wv.int ?_; with_reducible rfl) | (refine Wv.str ?_; with_reducible rfl) | (refine Wv.bool ?_; with_reducible rfl) | refine Wv.int ?_ | refine Wv.str ?_ | refine Wv.bool ?_ | exact Wv.same rfl
              · exact ⟨Nat.le_of_ble_eq_true rfl, .inl ⟨rfl, _, rfl, WvL.same rfl⟩⟩
              · refine ⟨Nat.le_of_ble_eq_true rfl, .inl ⟨rfl, _, rfl, arr_same (fun j hj => ?_) fun j _ => rfl⟩⟩
                rw [← fin]
    · have k1 : decide ((i : Int) < (L.length : Int)) = false := decide_eq_false (by omega)
      obtain rfl : i = L.length := by omega
      have hSl : (sortV L).length = L.length := sort_len L
      have wN : IntKind.i64.wrap ((L.length : Int) - 1) = (L.length : Int) - 1 := wrap_id (by unfold i64; omega)
      have hSr : ∀ x ∈ sortV L, right x = true ∧ i64 x.n := fun x hx => ⟨hr x ((sort_perm L).mem_iff.1 hx), hR'.i x ((sort_perm L).mem_iff.1 hx)⟩
      rw [seg_all]
      repeat' (refine BR.mk (fun h => ?_) (fun h => ?_) <;> first | with_reducible exact Bool.noConfusion h | with_reducible exact Bool.noConfusion (k1.symm.trans h) | exact absurd h (by decide) | skip)
      · exact ⟨⟨by decide, by omega⟩, rfl⟩
      · exact ⟨hn0, rfl⟩
      · refine Fini.mk ?_
        rw [fin_min hne hr]; rfl
theorem rfin_max (d : Bool) (l : List V) (hd : (d && sMax == sStar) = false) (hR : RF l) : PC Tryz.prog GV 17 [.str sMax, .bool d, .sl .no l.length (vF l)] (encR (finalS sMax (totA sMax (cntL sMax d l)))) := by
  rw [show cntL sMax d l = cntL sMax d (lO l.length (vF l)) from by rw [lO_vF]]
  have hR' : RF (cntL sMax d (lO l.length (vF l))) := by rw [lO_vF]; exact hR.cnt _ _
  refine pc_fin ET10_ok mixed (show Tryz.prog.funcs[17]? = some Tryz.f17 from rfl) ?_
  have hz : (cntL sMax d (lO l.length (vF l))) = [] → finalS sMax (totA sMax (cntL sMax d (lO l.length (vF l)))) = ⟨null, 0⟩ := fun e => by rw [e]; exact fin_nil (by simp)
  have k0 : (((cntL sMax d (lO l.length (vF l))).length : Int) == 0) = true → (cntL sMax d (lO l.length (vF l))) = [] := fun e => by
    by_cases hE : (cntL sMax d (lO l.length (vF l))) = []
    · exact hE
    · exact Bool.noConfusion ((len_b0 hE).symm.trans e)
  have k9 : (((cntL sMax d (lO l.length (vF l))).length : Int) == 0) = false → (cntL sMax d (lO l.length (vF l))) ≠ [] := fun e hE => by
    rw [hE] at e; exact Bool.noConfusion e
  repeat' (refine BR.mk (fun h => ?_) (fun h => ?_) <;> first | with_reducible exact Bool.noConfusion h | exact absurd h (by decide) | skip)
  · exact dcounts hd hR
  · exact Fini.mk (by rw [hz (k0 (by assumption))]; rfl)
  have hne := k9 (by assumption)
  clear k0 k9 hz
  generalize (cntL sMax d (lO l.length (vF l))) = L at hR' hne ⊢
  have hn0 : 0 < L.length := List.length_pos_iff.2 hne
  have hL := hR'.len
  have hr := hR'.r
  have hseg : ∀ i, i ≤ L.length → (segSort L 0 i).length = L.length := fun i h1 => seg_len L 0 i (Nat.zero_le _) h1
  refine loop_fam ET10_ok mixed (σ := Nat) (fun i => 1 ≤ i ∧ i ≤ L.length) (fun i => L.length - i) 1 ⟨Nat.le_refl _, hn0⟩ 2 0 [0, 6, 7, 8] (fun i => [(13, .int .i64 i)]) [0] (fun i => [(1, .arr 34 3 L.length (vF (segSort L 0 i)))]) (fun _ => []) ?_ ?_ ?_ ?_
  · rfl
  · rfl
  · refine Wk.mk' rfl rfl trivial ?_ ?_
    repeat' (refine BR.mk (fun _ => ?_) (fun _ => ?_))
    any_goals first | exact trivial | exact Wv.any _ | (refine Wv.int ?_; with_reducible rfl) | (refine Wv.str ?_; with_reducible rfl) | (refine Wv.bool ?_; with_reducible rfl) | refine Wv.int ?_ | refine Wv.str ?_ | refine Wv.bool ?_ | exact Wv.same rfl
    all_goals first
      | rfl
      | exact ⟨Nat.le_of_ble_eq_true rfl, .inl ⟨rfl, _, rfl, WvL.same rfl⟩⟩
      | exact ⟨Nat.le_of_ble_eq_true rfl, .inl ⟨rfl, _, rfl, arr_same (fun j hj => by rw [seg_zero]; exact ren_V rfl) fun j _ => rfl⟩⟩
  · rintro i ⟨hi1, hi2⟩
    by_cases hib : i < L.length
    · have k1 : decide ((i : Int) < (L.length : Int)) = true := decide_eq_true (by omega)
      obtain ⟨x, hx⟩ : ∃ x, L[i]? = some x := ⟨_, List.getElem?_eq_getElem hib⟩
      have hSl : (sortV ((L.drop 0).take (i - 0))).length = i := by rw [sort_len, List.length_take, List.length_drop]; omega
      have w1 : IntKind.i64.wrap ((i : Int) + 1) = ((i + 1 : Nat) : Int) := (wrap_id (by unfold i64; omega)).trans (by omega)
      repeat' (refine BR.mk (fun h => ?_) (fun h => ?_) <;> first | with_reducible exact Bool.noConfusion h | with_reducible exact Bool.noConfusion (k1.symm.trans h) | skip)
      refine loop_fam ET10_ok mixed (σ := List V × List V) (fun p => sortV ((L.drop 0).take (i - 0)) = p.1 ++ p.2 ∧ ∀ y ∈ p.2, compareV x y < 0) (fun p => p.1.length) (sortV ((L.drop 0).take (i - 0)), []) ⟨by simp, by simp⟩ 2 0 [0, 6, 7, 8, 13]
        (fun p => [(14, .int .i64 ((p.1.length : Nat) : Int))]) [0] (fun p => [(1, .arr 34 3 L.length (vF ((p.1 ++ x :: p.2) ++ L.drop (i + 1))))]) (fun _ => []) ?_ ?_ ?_ ?_
      · rfl
      · rfl
      · refine Wk.mk' rfl rfl trivial ?_ ?_
        repeat' (refine BR.mk (fun _ => ?_) (fun _ => ?_))
        any_goals first | exact trivial | exact Wv.any _ | (refine Wv.int ?_; with_reducible rfl) | (refine Wv.str ?_; with_reducible rfl) | (refine Wv.bool ?_; with_reducible rfl) | refine Wv.int ?_ | refine Wv.str ?_ | refine Wv.bool ?_ | exact Wv.same rfl
        · show (i : Int) = (((sortV ((L.drop 0).take (i - 0))).length : Nat) : Int)
          rw [hSl]
        · exact ⟨Nat.le_of_ble_eq_true rfl, .inl ⟨rfl, _, rfl, WvL.same rfl⟩⟩
        · refine ⟨Nat.le_of_ble_eq_true rfl, .inl ⟨rfl, _, rfl, arr_same (fun j hj => ?_) fun j _ => rfl⟩⟩
          rw [seg_at hx]
          show vF ([] ++ _) j = vF ((sortV ((L.drop 0).take (i - 0)) ++ x :: []) ++ L.drop (i + 1)) j
          rw [List.append_assoc]; rfl
      · rintro ⟨A, B⟩ ⟨hS, hB⟩
        simp only at hS hB
        have hAB : A.length + B.length = i := by rw [← hSl, hS, List.length_append]
        have hLn : ((A ++ x :: B) ++ L.drop (i + 1)).length = L.length := by
          simp only [List.length_append, List.length_cons, List.length_drop]; omega
        have fin : (A = [] ∨ ∀ y ∈ A.getLast?, ¬ compareV x y < 0) → (A ++ x :: B) ++ L.drop (i + 1) = segSort L 0 (i + 1) := fun h => by
          refine ((seg_step (Nat.zero_le _) hx hS hB ?_ hr).trans ?_).symm
          · rcases h with rfl | h
            · simp
            · exact h
          · rfl
        rcases A.eq_nil_or_concat with rfl | ⟨A', y, eA⟩
        · have k2 : decide (((([] : List V).length : Nat) : Int) > 0) = false := rfl
          repeat' (refine BR.mk (fun h => ?_) (fun h => ?_) <;> first | with_reducible exact Bool.noConfusion h | with_reducible exact Bool.noConfusion (k2.symm.trans h) | skip)
          all_goals first | exact (show commutes _ _ = true by kernel_rfl) | skip
          have fin := fin (.inl rfl)
          refine Again.fam (i + 1) ⟨by omega, hib⟩ (by show L.length - (i + 1) < L.length - i; omega) rfl rfl rfl rfl trivial ?_ ?_
          · repeat' (refine BR.mk (fun _ => ?_) (fun _ => ?_))
            any_goals first | exact trivial | exact Wv.any _ | (refine Wv.int ?_; with_reducible rfl) | (refine Wv.str ?_; with_reducible rfl) | (refine Wv.bool ?_; with_reducible rfl) | refine Wv.int ?_ | refine Wv.str ?_ | refine Wv.bool ?_ | exact Wv.same rfl
            exact w1
          · repeat' (refine BR.mk (fun _ => ?_) (fun _ => ?_))
            any_goals first | exact trivial | exact Wv.any _ | (refine Wv.int ?_; with_reducible rfl) | (refine Wv.str ?_; with_reducible rfl) | (refine Wv.bool ?_; with_reducible rfl) | refine Wv.int ?_ | refine Wv.str ?_ | refine Wv.bool ?_ | exact Wv.same rfl
            · exact ⟨Nat.le_of_ble_eq_true rfl, .inl ⟨rfl, _, rfl, WvL.same rfl⟩⟩
            · refine ⟨Nat.le_of_ble_eq_true rfl, .inl ⟨rfl, _, rfl, arr_same (fun j hj => ?_) fun j _ => rfl⟩⟩
              rw [← fin]
        · rw [List.concat_eq_append] at eA
          subst eA
          have hJ : (A' ++ [y]).length = A'.length + 1 := by simp
          have wJ : IntKind.i64.wrap ((((A' ++ [y]).length : Nat) : Int) - 1) = ((A'.length : Nat) : Int) := by rw [wrap_id (by unfold i64; omega)]; omega
          have k2 : decide ((((A' ++ [y]).length : Nat) : Int) > 0) = true := decide_eq_true (by omega)
          have q1 : (((A' ++ [y]) ++ x :: B) ++ L.drop (i + 1)).getD (0 + ((((A' ++ [y]).length : Nat) : Int)).toNat) null = x := by
            have := at_last (A' ++ [y]) (B ++ L.drop (i + 1)) x
            rw [show 0 + ((((A' ++ [y]).length : Nat) : Int)).toNat = (A' ++ [y]).length from by omega]
            simpa only [List.append_assoc, List.cons_append] using this
          have q2 : (((A' ++ [y]) ++ x :: B) ++ L.drop (i + 1)).getD (0 + (IntKind.i64.wrap ((((A' ++ [y]).length : Nat) : Int) - 1)).toNat) null = y := by
            have := at_last A' (x :: (B ++ L.drop (i + 1))) y
            rw [wJ, show 0 + (((A'.length : Nat) : Int)).toNat = A'.length from by omega]
            simpa only [List.append_assoc, List.cons_append, List.nil_append] using this
          have z1 : (0 : Int) ≤ IntKind.i64.wrap ((((A' ++ [y]).length : Nat) : Int) - 1) ∧ IntKind.i64.wrap ((((A' ++ [y]).length : Nat) : Int) - 1) < (L.length : Int) := by rw [wJ]; exact ⟨by omega, by omega⟩
          have z2 : 0 + (IntKind.i64.wrap ((((A' ++ [y]).length : Nat) : Int) - 1)).toNat < L.length := by rw [wJ]; omega
          have z3 : (0 : Int) ≤ (((A' ++ [y]).length : Nat) : Int) ∧ (((A' ++ [y]).length : Nat) : Int) < (L.length : Int) := ⟨by omega, by omega⟩
          have z4 : 0 + ((((A' ++ [y]).length : Nat) : Int)).toNat < L.length := by omega
          have hxm : x ∈ L := List.mem_of_getElem? hx
          have hym : y ∈ L := by
            have h1 : y ∈ sortV ((L.drop 0).take (i - 0)) := by rw [hS]; simp
            exact List.mem_of_mem_drop (List.mem_of_mem_take ((sort_perm _).mem_iff.1 h1))
          have z5 : ((((A' ++ [y]) ++ x :: B) ++ L.drop (i + 1)).getD (0 + (IntKind.i64.wrap ((((A' ++ [y]).length : Nat) : Int) - 1)).toNat) null).s.length ≤ 9223372036854775807 ∧ ((((A' ++ [y]) ++ x :: B) ++ L.drop (i + 1)).getD (0 + ((((A' ++ [y]).length : Nat) : Int)).toNat) null).s.length ≤ 9223372036854775807 := by
            rw [q1, q2]; exact ⟨len_big (hr _ hym), len_big (hr _ hxm)⟩
          have hanti := acv_anti x y
          by_cases hc : compareV x y < 0
          · have k3 : decide (compareV ((((A' ++ [y]) ++ x :: B) ++ L.drop (i + 1)).getD (0 + (IntKind.i64.wrap ((((A' ++ [y]).length : Nat) : Int) - 1)).toNat) null) ((((A' ++ [y]) ++ x :: B) ++ L.drop (i + 1)).getD (0 + ((((A' ++ [y]).length : Nat) : Int)).toNat) null) > 0) = true := by
              rw [q1, q2]; exact decide_eq_true (by omega)
            repeat' (refine BR.mk (fun h => ?_) (fun h => ?_) <;> first | with_reducible exact Bool.noConfusion h | with_reducible exact Bool.noConfusion (k2.symm.trans h) | with_reducible exact Bool.noConfusion (k3.symm.trans h) | skip)
            all_goals first | with_reducible exact z5 | with_reducible exact ⟨z1, rfl⟩ | with_reducible exact ⟨z2, rfl⟩ | with_reducible exact ⟨z3, rfl⟩ | with_reducible exact ⟨z4, rfl⟩ | exact (show commutes _ _ = true by kernel_rfl) | exact ⟨z1, rfl⟩ | exact ⟨z3, rfl⟩ | skip
            refine Again.fam (A', y :: B) ⟨by simpa using hS, fun z hz => ?_⟩ (by show A'.length < (A' ++ [y]).length; omega) rfl rfl rfl rfl trivial ?_ ?_
            · rcases List.mem_cons.1 hz with rfl | hz
              · exact hc
              · exact hB z hz
            · repeat' (refine BR.mk (fun _ => ?_) (fun _ => ?_))
              any_goals first | exact trivial | exact Wv.any _ | (refine Wv.int ?_; with_reducible rfl) | (refine Wv.str ?_; with_reducible rfl) | (refine Wv.bool ?_; with_reducible rfl) | refine Wv.int ?_ | refine Wv.str ?_ | refine Wv.bool ?_ | exact Wv.same rfl
              exact wJ
            · repeat' (refine BR.mk (fun _ => ?_) (fun _ => ?_))
              any_goals first | exact trivial | exact Wv.any _ | (refine Wv.int ?_; with_reducible rfl) | (refine Wv.str ?_; with_reducible rfl) | (refine Wv.bool ?_; with_reducible rfl) | refine Wv.int ?_ | refine Wv.str ?_ | refine Wv.bool ?_ | exact Wv.same rfl
              · exact ⟨Nat.le_of_ble_eq_true rfl, .inl ⟨rfl, _, rfl, WvL.same rfl⟩⟩
              · refine ⟨Nat.le_of_ble_eq_true rfl, .inl ⟨rfl, _, rfl, arr_same (fun j hj => ?_) fun j _ => rfl⟩⟩
                have hs := swap_vF2 A' (B ++ L.drop (i + 1)) x y j
                have e1 : A' ++ y :: x :: (B ++ L.drop (i + 1)) = ((A' ++ [y]) ++ x :: B) ++ L.drop (i + 1) := by simp
                have e2 : A' ++ x :: y :: (B ++ L.drop (i + 1)) = (A' ++ x :: y :: B) ++ L.drop (i + 1) := by simp
                rw [e1, e2] at hs
                refine Eq.trans ?_ hs
                show upd (upd (vF (((A' ++ [y]) ++ x :: B) ++ L.drop (i + 1))) (0 + (IntKind.i64.wrap ((((A' ++ [y]).length : Nat) : Int) - 1)).toNat) (encV ((((A' ++ [y]) ++ x :: B) ++ L.drop (i + 1)).getD (0 + ((((A' ++ [y]).length : Nat) : Int)).toNat) null))) (0 + ((((A' ++ [y]).length : Nat) : Int)).toNat) (encV ((((A' ++ [y]) ++ x :: B) ++ L.drop (i + 1)).getD (0 + (IntKind.i64.wrap ((((A' ++ [y]).length : Nat) : Int) - 1)).toNat) null)) j = _
                rw [q1, q2, wJ, show 0 + (((A'.length : Nat) : Int)).toNat = A'.length from by omega, show 0 + ((((A' ++ [y]).length : Nat) : Int)).toNat = A'.length + 1 from by omega]
          · have k3 : decide (compareV ((((A' ++ [y]) ++ x :: B) ++ L.drop (i + 1)).getD (0 + (IntKind.i64.wrap ((((A' ++ [y]).length : Nat) : Int) - 1)).toNat) null) ((((A' ++ [y]) ++ x :: B) ++ L.drop (i + 1)).getD (0 + ((((A' ++ [y]).length : Nat) : Int)).toNat) null) > 0) = false := by
              rw [q1, q2]; exact decide_eq_false (by omega)
            repeat' (refine BR.mk (fun h => ?_) (fun h => ?_) <;> first | with_reducible exact Bool.noConfusion h | with_reducible exact Bool.noConfusion (k2.symm.trans h) | with_reducible exact Bool.noConfusion (k3.symm.trans h) | skip)
            all_goals first | with_reducible exact z5 | with_reducible exact ⟨z1, rfl⟩ | with_reducible exact ⟨z2, rfl⟩ | with_reducible exact ⟨z3, rfl⟩ | with_reducible exact ⟨z4, rfl⟩ | exact (show commutes _ _ = true by kernel_rfl) | skip
            have fin := fin (.inr (by simpa using hc))
            refine Again.fam (i + 1) ⟨by omega, hib⟩ (by show L.length - (i + 1) < L.length - i; omega) rfl rfl rfl rfl trivial ?_ ?_
            · repeat' (refine BR.mk (fun _ => ?_) (fun _ => ?_))
              any_goals first | exact trivial | exact Wv.any _ | (refine Wv.int ?_; with_reducible rfl) | (refine Wv.str ?_; with_reducible rfl) | (refine Wv.bool ?_; with_reducible rfl) | refine Wv.int ?_ | refine Wv.str ?_ | refine Wv.bool ?_ | exact Wv.same rfl
              exact w1
            · repeat' (refine BR.mk (fun _ => ?_) (fun _ => ?_))
              any_goals first | exact trivial | exact Wv.any _ | (refine Wv.int ?_; with_reducible rfl) | (refine Wv.str ?_; with_reducible rfl) | (refine Wv.bool ?_; with_reducible rfl) | refine Wv.int ?_ | refine Wv.str ?_ | refine Wv.bool ?_ | exact Wv.same rfl
              · exact ⟨Nat.le_of_ble_eq_true rfl, .inl ⟨rfl, _, rfl, WvL.same rfl⟩⟩
              · refine ⟨Nat.le_of_ble_eq_true rfl, .inl ⟨rfl, _, rfl, arr_same (fun j hj => ?_) fun j _ => rfl⟩⟩
                rw [← fin]
    · have k1 : decide ((i : Int) < (L.length : Int)) = false := decide_eq_false (by omega)
      obtain rfl : i = L.length := by omega
      have hSl : (sortV L).length = L.length := sort_len L
      have wN : IntKind.i64.wrap ((L.length : Int) - 1) = (L.length : Int) - 1 := wrap_id (by unfold i64; omega)
      have hSr : ∀ x ∈ sortV L, right x = true ∧ i64 x.n := fun x hx => ⟨hr x ((sort_perm L).mem_iff.1 hx), hR'.i x ((sort_perm L).mem_iff.1 hx)⟩
      rw [seg_all]
      repeat' (refine BR.mk (fun h => ?_) (fun h => ?_) <;> first | with_reducible exact Bool.noConfusion h | with_reducible exact Bool.noConfusion (k1.symm.trans h) | exact absurd h (by decide) | skip)
      · exact ⟨⟨by rw [wN]; omega, by rw [wN]; omega⟩, rfl⟩
      · exact ⟨by rw [wN]; omega, rfl⟩
      · refine Fini.mk ?_
        rw [fin_max hne hr]
        refine congrArg (fun v => encR ⟨v, 0⟩) ?_
        rw [hSl]
        exact congrArg (fun j => (sortV L).getD j null) (show 0 + (IntKind.i64.wrap ((L.length : Int) - 1)).toNat = L.length - 1 by rw [wN]; omega)
theorem rfin_concat (d : Bool) (l : List V) (hd : (d && sConcat == sStar) = false) (hR : RF l) : PC Tryz.prog GV 17 [.str sConcat, .bool d, .sl .no l.length (vF l)] (encR (finalS sConcat (totA sConcat (cntL sConcat d l)))) := by
  rw [show cntL sConcat d l = cntL sConcat d (lO l.length (vF l)) from by rw [lO_vF]]
  have hR' : RF (cntL sConcat d (lO l.length (vF l))) := by rw [lO_vF]; exact hR.cnt _ _
  refine pc_fin ET10_ok mixed (show Tryz.prog.funcs[17]? = some Tryz.f17 from rfl) ?_
  have hz : (cntL sConcat d (lO l.length (vF l))) = [] → finalS sConcat (totA sConcat (cntL sConcat d (lO l.length (vF l)))) = ⟨null, 0⟩ := fun e => by rw [e]; exact fin_nil (by simp)
  have k0 : (((cntL sConcat d (lO l.length (vF l))).length : Int) == 0) = true → (cntL sConcat d (lO l.length (vF l))) = [] := fun e => by
    by_cases hE : (cntL sConcat d (lO l.length (vF l))) = []
    · exact hE
    · exact Bool.noConfusion ((len_b0 hE).symm.trans e)
  have k9 : (((cntL sConcat d (lO l.length (vF l))).length : Int) == 0) = false → (cntL sConcat d (lO l.length (vF l))) ≠ [] := fun e hE => by
    rw [hE] at e; exact Bool.noConfusion e
  repeat' (refine BR.mk (fun h => ?_) (fun h => ?_) <;> first | with_reducible exact Bool.noConfusion h | exact absurd h (by decide) | skip)
  · exact dcounts hd hR
  · exact Fini.mk (by rw [hz (k0 (by assumption))]; rfl)
  have hne := k9 (by assumption)
  clear k0 k9 hz
  generalize (cntL sConcat d (lO l.length (vF l))) = L at hR' hne ⊢
  have hn0 : 0 < L.length := List.length_pos_iff.2 hne
  have hL := hR'.len
  have hr := hR'.r
  have hseg : ∀ i, i ≤ L.length → (segSort L 0 i).length = L.length := fun i h1 => seg_len L 0 i (Nat.zero_le _) h1
  refine loop_fam ET10_ok mixed (σ := Nat) (fun i => 1 ≤ i ∧ i ≤ L.length) (fun i => L.length - i) 1 ⟨Nat.le_refl _, hn0⟩ 2 0 [0, 6, 7, 8] (fun i => [(13, .int .i64 i)]) [0] (fun i => [(1, .arr 34 3 L.length (vF (segSort L 0 i)))]) (fun _ => []) ?_ ?_ ?_ ?_
  · rfl
  · rfl
  · refine Wk.mk' rfl rfl trivial ?_ ?_
    repeat' (refine BR.mk (fun _ => ?_) (fun _ => ?_))
    any_goals first | exact trivial | exact Wv.any _ | (refine Wv.int ?_; with_reducible rfl) | (refine Wv.str ?_; with_reducible rfl) | (refine Wv.bool ?_; with_reducible rfl) | refine Wv.int ?_ | refine Wv.str ?_ | refine Wv.bool ?_ | exact Wv.same rfl
    all_goals first
      | rfl
      | exact ⟨Nat.le_of_ble_eq_true rfl, .inl ⟨rfl, _, rfl, WvL.same rfl⟩⟩
      | exact ⟨Nat.le_of_ble_eq_true rfl, .inl ⟨rfl, _, rfl, arr_same (fun j hj => by rw [seg_zero]; exact ren_V rfl) fun j _ => rfl⟩⟩
  · rintro i ⟨hi1, hi2⟩
    by_cases hib : i < L.length
    · have k1 : decide ((i : Int) < (L.length : Int)) = true := decide_eq_true (by omega)
      obtain ⟨x, hx⟩ : ∃ x, L[i]? = some x := ⟨_, List.getElem?_eq_getElem hib⟩
      have hSl : (sortV ((L.drop 0).take (i - 0))).length = i := by rw [sort_len, List.length_take, List.length_drop]; omega
      have w1 : IntKind.i64.wrap ((i : Int) + 1) = ((i + 1 : Nat) : Int) := (wrap_id (by unfold i64; omega)).trans (by omega)
      repeat' (refine BR.mk (fun h => ?_) (fun h => ?_) <;> first | with_reducible exact Bool.noConfusion h | with_reducible exact Bool.noConfusion (k1.symm.trans h) | skip)
      refine loop_fam ET10_ok mixed (σ := List V × List V) (fun p => sortV ((L.drop 0).take (i - 0)) = p.1 ++ p.2 ∧ ∀ y ∈ p.2, compareV x y < 0) (fun p => p.1.length) (sortV ((L.drop 0).take (i - 0)), []) ⟨by simp, by simp⟩ 2 0 [0, 6, 7, 8, 13]
        (fun p => [(14, .int .i64 ((p.1.length : Nat) : Int))]) [0] (fun p => [(1, .arr 34 3 L.length (vF ((p.1 ++ x :: p.2) ++ L.drop (i + 1))))]) (fun _ => []) ?_ ?_ ?_ ?_
      · rfl
      · rfl
      · refine Wk.mk' rfl rfl trivial ?_ ?_
        repeat' (refine BR.mk (fun _ => ?_) (fun _ => ?_))
        any_goals first | exact trivial | exact Wv.any _ | (refine Wv.int ?_; with_reducible rfl) | (refine Wv.str ?_; with_reducible rfl) | (refine Wv.bool ?_; with_reducible rfl) | refine Wv.int ?_ | refine Wv.str ?_ | refine Wv.bool ?_ | exact Wv.same rfl
        · show (i : Int) = (((sortV ((L.drop 0).take (i - 0))).length : Nat) : Int)
          rw [hSl]
        · exact ⟨Nat.le_of_ble_eq_true rfl, .inl ⟨rfl, _, rfl, WvL.same rfl⟩⟩
        · refine ⟨Nat.le_of_ble_eq_true rfl, .inl ⟨rfl, _, rfl, arr_same (fun j hj => ?_) fun j _ => rfl⟩⟩
          rw [seg_at hx]
          show vF ([] ++ _) j = vF ((sortV ((L.drop 0).take (i - 0)) ++ x :: []) ++ L.drop (i + 1)) j
          rw [List.append_assoc]; rfl
      · rintro ⟨A, B⟩ ⟨hS, hB⟩
        simp only at hS hB
        have hAB : A.length + B.length = i := by rw [← hSl, hS, List.length_append]
        have hLn : ((A ++ x :: B) ++ L.drop (i + 1)).length = L.length := by
          simp only [List.length_append, List.length_cons, List.length_drop]; omega
        have fin : (A = [] ∨ ∀ y ∈ A.getLast?, ¬ compareV x y < 0) → (A ++ x :: B) ++ L.drop (i + 1) = segSort L 0 (i + 1) := fun h => by
          refine ((seg_step (Nat.zero_le _) hx hS hB ?_ hr).trans ?_).symm
          · rcases h with rfl | h
            · simp
            · exact h
          · rfl
        rcases A.eq_nil_or_concat with rfl | ⟨A', y, eA⟩
        · have k2 : decide (((([] : List V).length : Nat) : Int) > 0) = false := rfl
          repeat' (refine BR.mk (fun h => ?_) (fun h => ?_) <;> first | with_reducible exact Bool.noConfusion h | with_reducible exact Bool.noConfusion (k2.symm.trans h) | skip)
          all_goals first | exact (show commutes _ _ = true by kernel_rfl) | skip
          have fin := fin (.inl rfl)
          refine Again.fam (i + 1) ⟨by omega, hib⟩ (by show L.length - (i + 1) < L.length - i; omega) rfl rfl rfl rfl trivial ?_ ?_
          · repeat' (refine BR.mk (fun _ => ?_) (fun _ => ?_))
            any_goals first | exact trivial | exact Wv.any _ | (refine Wv.int ?_; with_reducible rfl) | (refine Wv.str ?_; with_reducible rfl) | (refine Wv.bool ?_; with_reducible rfl) | refine Wv.int ?_ | refine Wv.str ?_ | refine Wv.bool ?_ | exact Wv.same rfl
            exact w1
          · repeat' (refine BR.mk (fun _ => ?_) (fun _ => ?_))
            any_goals first | exact trivial | exact Wv.any _ | (refine Wv.int ?_; with_reducible rfl) | (refine Wv.str ?_; with_reducible rfl) | (refine Wv.bool ?_; with_reducible rfl) | refine Wv.int ?_ | refine Wv.str ?_ | refine Wv.bool ?_ | exact Wv.same rfl
            · exact ⟨Nat.le_of_ble_eq_true rfl, .inl ⟨rfl, _, rfl, WvL.same rfl⟩⟩
            · refine ⟨Nat.le_of_ble_eq_true rfl, .inl ⟨rfl, _, rfl, arr_same (fun j hj => ?_) fun j _ => rfl⟩⟩
              rw [← fin]
        · rw [List.concat_eq_append] at eA
          subst eA
          have hJ : (A' ++ [y]).length = A'.length + 1 := by simp
          have wJ : IntKind.i64.wrap ((((A' ++ [y]).length : Nat) : Int) - 1) = ((A'.length : Nat) : Int) := by rw [wrap_id (by unfold i64; omega)]; omega
          have k2 : decide ((((A' ++ [y]).length : Nat) : Int) > 0) = true := decide_eq_true (by omega)
          have q1 : (((A' ++ [y]) ++ x :: B) ++ L.drop (i + 1)).getD (0 + ((((A' ++ [y]).length : Nat) : Int)).toNat) null = x := by
            have := at_last (A' ++ [y]) (B ++ L.drop (i + 1)) x
            rw [show 0 + ((((A' ++ [y]).length : Nat) : Int)).toNat = (A' ++ [y]).length from by omega]
            simpa only [List.append_assoc, List.cons_append] using this
          have q2 : (((A' ++ [y]) ++ x :: B) ++ L.drop (i + 1)).getD (0 + (IntKind.i64.wrap ((((A' ++ [y]).length : Nat) : Int) - 1)).toNat) null = y := by
            have := at_last A' (x :: (B ++ L.drop (i + 1))) y
            rw [wJ, show 0 + (((A'.length : Nat) : Int)).toNat = A'.length from by omega]
            simpa only [List.append_assoc, List.cons_append, List.nil_append] using this
          have z1 : (0 : Int) ≤ IntKind.i64.wrap ((((A' ++ [y]).length : Nat) : Int) - 1) ∧ IntKind.i64.wrap ((((A' ++ [y]).length : Nat) : Int) - 1) < (L.length : Int) := by rw [wJ]; exact ⟨by omega, by omega⟩
          have z2 : 0 + (IntKind.i64.wrap ((((A' ++ [y]).length : Nat) : Int) - 1)).toNat < L.length := by rw [wJ]; omega
          have z3 : (0 : Int) ≤ (((A' ++ [y]).length : Nat) : Int) ∧ (((A' ++ [y]).length : Nat) : Int) < (L.length : Int) := ⟨by omega, by omega⟩
          have z4 : 0 + ((((A' ++ [y]).length : Nat) : Int)).toNat < L.length := by omega
          have hxm : x ∈ L := List.mem_of_getElem? hx
          have hym : y ∈ L := by
            have h1 : y ∈ sortV ((L.drop 0).take (i - 0)) := by rw [hS]; simp
            exact List.mem_of_mem_drop (List.mem_of_mem_take ((sort_perm _).mem_iff.1 h1))
          have z5 : ((((A' ++ [y]) ++ x :: B) ++ L.drop (i + 1)).getD (0 + (IntKind.i64.wrap ((((A' ++ [y]).length : Nat) : Int) - 1)).toNat) null).s.length ≤ 9223372036854775807 ∧ ((((A' ++ [y]) ++ x :: B) ++ L.drop (i + 1)).getD (0 + ((((A' ++ [y]).length : Nat) : Int)).toNat) null).s.length ≤ 9223372036854775807 := by
            rw [q1, q2]; exact ⟨len_big (hr _ hym), len_big (hr _ hxm)⟩
          have hanti := acv_anti x y
          by_cases hc : compareV x y < 0
          · have k3 : decide (compareV ((((A' ++ [y]) ++ x :: B) ++ L.drop (i + 1)).getD (0 + (IntKind.i64.wrap ((((A' ++ [y]).length : Nat) : Int) - 1)).toNat) null) ((((A' ++ [y]) ++ x :: B) ++ L.drop (i + 1)).getD (0 + ((((A' ++ [y]).length : Nat) : Int)).toNat) null) > 0) = true := by
              rw [q1, q2]; exact decide_eq_true (by omega)
            repeat' (refine BR.mk (fun h => ?_) (fun h => ?_) <;> first | with_reducible exact Bool.noConfusion h | with_reducible exact Bool.noConfusion (k2.symm.trans h) | with_reducible exact Bool.noConfusion (k3.symm.trans h) | skip)
            all_goals first | with_reducible exact z5 | with_reducible exact ⟨z1, rfl⟩ | with_reducible exact ⟨z2, rfl⟩ | with_reducible exact ⟨z3, rfl⟩ | with_reducible exact ⟨z4, rfl⟩ | exact (show commutes _ _ = true by kernel_rfl) | exact ⟨z1, rfl⟩ | exact ⟨z3, rfl⟩ | skip
            refine Again.fam (A', y :: B) ⟨by simpa using hS, fun z hz => ?_⟩ (by show A'.length < (A' ++ [y]).length; omega) rfl rfl rfl rfl trivial ?_ ?_
            · rcases List.mem_cons.1 hz with rfl | hz
              · exact hc
              · exact hB z hz
            · repeat' (refine BR.mk (fun _ => ?_) (fun _ => ?_))
              any_goals first | exact trivial | exact Wv.any _ | (refine Wv.int ?_; with_reducible rfl) | (refine Wv.str ?_; with_reducible rfl) | (refine Wv.bool ?_; with_reducible rfl) | refine Wv.int ?_ | refine Wv.str ?_ | refine Wv.bool ?_ | exact Wv.same rfl
              exact wJ
            · repeat' (refine BR.mk (fun _ => ?_) (fun _ => ?_))
              any_goals first | exact trivial | exact Wv.any _ | (refine Wv.int ?_; with_reducible rfl) | (refine Wv.str ?_; with_reducible rfl) | (refine Wv.bool ?_; with_reducible rfl) | refine Wv.int ?_ | refine Wv.str ?_ | refine Wv.bool ?_ | exact Wv.same rfl
              · exact ⟨Nat.le_of_ble_eq_true rfl, .inl ⟨rfl, _, rfl, WvL.same rfl⟩⟩
              · refine ⟨Nat.le_of_ble_eq_true rfl, .inl ⟨rfl, _, rfl, arr_same (fun j hj => ?_) fun j _ => rfl⟩⟩
                have hs := swap_vF2 A' (B ++ L.drop (i + 1)) x y j
                have e1 : A' ++ y :: x :: (B ++ L.drop (i + 1)) = ((A' ++ [y]) ++ x :: B) ++ L.drop (i + 1) := by simp
                have e2 : A' ++ x :: y :: (B ++ L.drop (i + 1)) = (A' ++ x :: y :: B) ++ L.drop (i + 1) := by simp
                rw [e1, e2] at hs
                refine Eq.trans ?_ hs
                show upd (upd (vF (((A' ++ [y]) ++ x :: B) ++ L.drop (i + 1))) (0 + (IntKind.i64.wrap ((((A' ++ [y]).length : Nat) : Int) - 1)).toNat) (encV ((((A' ++ [y]) ++ x :: B) ++ L.drop (i + 1)).getD (0 + ((((A' ++ [y]).length : Nat) : Int)).toNat) null))) (0 + ((((A' ++ [y]).length : Nat) : Int)).toNat) (encV ((((A' ++ [y]) ++ x :: B) ++ L.drop (i + 1)).getD (0 + (IntKind.i64.wrap ((((A' ++ [y]).length : Nat) : Int) - 1)).toNat) null)) j = _
                rw [q1, q2, wJ, show 0 + (((A'.length : Nat) : Int)).toNat = A'.length from by omega, show 0 + ((((A' ++ [y]).length : Nat) : Int)).toNat = A'.length + 1 from by omega]
          · have k3 : decide (compareV ((((A' ++ [y]) ++ x :: B) ++ L.drop (i + 1)).getD (0 + (IntKind.i64.wrap ((((A' ++ [y]).length : Nat) : Int) - 1)).toNat) null) ((((A' ++ [y]) ++ x :: B) ++ L.drop (i + 1)).getD (0 + ((((A' ++ [y]).length : Nat) : Int)).toNat) null) > 0) = false := by
              rw [q1, q2]; exact decide_eq_false (by omega)
            repeat' (refine BR.mk (fun h => ?_) (fun h => ?_) <;> first | with_reducible exact Bool.noConfusion h | with_reducible exact Bool.noConfusion (k2.symm.trans h) | with_reducible exact Bool.noConfusion (k3.symm.trans h) | skip)
            all_goals first | with_reducible exact z5 | with_reducible exact ⟨z1, rfl⟩ | with_reducible exact ⟨z2, rfl⟩ | with_reducible exact ⟨z3, rfl⟩ | with_reducible exact ⟨z4, rfl⟩ | exact (show commutes _ _ = true by kernel_rfl) | skip
            have fin := fin (.inr (by simpa using hc))
            refine Again.fam (i + 1) ⟨by omega, hib⟩ (by show L.length - (i + 1) < L.length - i; omega) rfl rfl rfl rfl trivial ?_ ?_
            · repeat' (refine BR.mk (fun _ => ?_) (fun _ => ?_))
              any_goals first | exact trivial | exact Wv.any _ | (refine Wv.int ?_; with_reducible rfl) | (refine Wv.str ?_; with_reducible rfl) | (refine Wv.bool ?_; with_reducible rfl) | refine Wv.int ?_ | refine Wv.str ?_ | refine Wv.bool ?_ | exact Wv.same rfl
              exact w1
            · repeat' (refine BR.mk (fun _ => ?_) (fun _ => ?_))
              any_goals first | exact trivial | exact Wv.any _ | (refine Wv.int ?_; with_reducible rfl) | (refine Wv.str ?_; with_reducible rfl) | (refine Wv.bool ?_; with_reducible rfl) | refine Wv.int ?_ | refine Wv.str ?_ | refine Wv.bool ?_ | exact Wv.same rfl
              · exact ⟨Nat.le_of_ble_eq_true rfl, .inl ⟨rfl, _, rfl, WvL.same rfl⟩⟩
              · refine ⟨Nat.le_of_ble_eq_true rfl, .inl ⟨rfl, _, rfl, arr_same (fun j hj => ?_) fun j _ => rfl⟩⟩
                rw [← fin]
    · have k1 : decide ((i : Int) < (L.length : Int)) = false := decide_eq_false (by omega)
      obtain rfl : i = L.length := by omega
      have hSl : (sortV L).length = L.length := sort_len L
      have wN : IntKind.i64.wrap ((L.length : Int) - 1) = (L.length : Int) - 1 := wrap_id (by unfold i64; omega)
      have hSr : ∀ x ∈ sortV L, right x = true ∧ i64 x.n := fun x hx => ⟨hr x ((sort_perm L).mem_iff.1 hx), hR'.i x ((sort_perm L).mem_iff.1 hx)⟩
      rw [seg_all]
      repeat' (refine BR.mk (fun h => ?_) (fun h => ?_) <;> first | with_reducible exact Bool.noConfusion h | with_reducible exact Bool.noConfusion (k1.symm.trans h) | exact absurd h (by decide) | skip)
      · exact ⟨⟨by decide, by omega⟩, rfl⟩
      · exact ⟨hn0, rfl⟩
      · exact (hSr _ (getD_mem (by omega))).2
      refine loop_fam ET10_ok mixed (σ := Nat) (fun i => 1 ≤ i ∧ i ≤ L.length) (fun i => L.length - i) 1 ⟨Nat.le_refl _, hn0⟩ 2 0 [6, 7, 8] (fun i => [(15, .str (jnT (sortV L) i)), (16, .int .i64 i)]) [0, 1] (fun _ => []) (fun _ => []) ?_ ?_ ?_ ?_
      · rfl
      · rfl
      · refine Wk.mk' rfl rfl trivial ?_ ?_
        repeat' (refine BR.mk (fun _ => ?_) (fun _ => ?_))
        any_goals first | exact trivial | exact Wv.any _ | (refine Wv.int ?_; with_reducible rfl) | (refine Wv.str ?_; with_reducible rfl) | (refine Wv.bool ?_; with_reducible rfl) | refine Wv.int ?_ | refine Wv.str ?_ | refine Wv.bool ?_ | exact Wv.same rfl
        · exact (jn_one (sort_ne hne)).symm
        all_goals first
          | rfl
          | exact ⟨Nat.le_of_ble_eq_true rfl, .inl ⟨rfl, _, rfl, WvL.same rfl⟩⟩
          | exact ⟨Nat.le_of_ble_eq_true rfl, .inl ⟨rfl, _, rfl, arr_same (fun _ _ => rfl) fun j _ => rfl⟩⟩
      · rintro j ⟨hj1, hj2⟩
        have hjl := jn_le (fun x hx => text_len (hSr x hx).1 (hSr x hx).2) j (show (sortV L).length ≤ 1000 by omega)
        by_cases hjb : j < L.length
        · have k3 : decide ((j : Int) < (L.length : Int)) = true := decide_eq_true (by omega)
          have e0 : 0 + ((j : Int)).toNat = j := by omega
          have hxm := hSr _ (getD_mem (l := sortV L) (i := j) (by omega))
          have htl := text_len hxm.1 hxm.2
          repeat' (refine BR.mk (fun h => ?_) (fun h => ?_) <;> first | with_reducible exact Bool.noConfusion h | with_reducible exact Bool.noConfusion (k3.symm.trans h) | skip)
          · show _ + 1 ≤ _
            omega
          · exact ⟨⟨by omega, by omega⟩, rfl⟩
          · exact ⟨by omega, rfl⟩
          · rw [e0]; exact hxm.2
          · rw [e0, List.length_append]
            show _ + 1 + _ ≤ _
            have : textV { k := ((sortV L).getD j null).k, n := ((sortV L).getD j null).n, s := ((sortV L).getD j null).s } = textV ((sortV L).getD j null) := rfl
            rw [this]
            omega
          · refine Again.fam (j + 1) ⟨by omega, hjb⟩ (by show L.length - (j + 1) < L.length - j; omega) rfl rfl rfl rfl trivial ?_ ?_
            · repeat' (refine BR.mk (fun _ => ?_) (fun _ => ?_))
              any_goals first | exact trivial | exact Wv.any _ | (refine Wv.int ?_; with_reducible rfl) | (refine Wv.str ?_; with_reducible rfl) | (refine Wv.bool ?_; with_reducible rfl) | refine Wv.int ?_ | refine Wv.str ?_ | refine Wv.bool ?_ | exact Wv.same rfl
              · rw [jn_step hj1 (by omega), e0]
              · exact (wrap_id (by unfold i64; omega)).trans (by omega)
            · repeat' (refine BR.mk (fun _ => ?_) (fun _ => ?_))
              any_goals first | exact trivial | exact Wv.any _ | (refine Wv.int ?_; with_reducible rfl) | (refine Wv.str ?_; with_reducible rfl) | (refine Wv.bool ?_; with_reducible rfl) | refine Wv.int ?_ | refine Wv.str ?_ | refine Wv.bool ?_ | exact Wv.same rfl
              · exact ⟨Nat.le_of_ble_eq_true rfl, .inl ⟨rfl, _, rfl, WvL.same rfl⟩⟩
              · exact ⟨Nat.le_of_ble_eq_true rfl, .inl ⟨rfl, _, rfl, arr_same (fun _ _ => rfl) fun j _ => rfl⟩⟩
        · have k3 : decide ((j : Int) < (L.length : Int)) = false := decide_eq_false (by omega)
          obtain rfl : j = L.length := by omega
          by_cases hlong : (jnT (sortV L) L.length).length > 65536
          · have k4 : decide (((jnT (sortV L) L.length).length : Int) > 65536) = true := decide_eq_true (by omega)
            repeat' (refine BR.mk (fun h => ?_) (fun h => ?_) <;> first | with_reducible exact Bool.noConfusion h | with_reducible exact Bool.noConfusion (k3.symm.trans h) | with_reducible exact Bool.noConfusion (k4.symm.trans h) | skip)
            refine Fini.mk ?_
            rw [fin_join hne, if_pos hlong]; rfl
          · have k4 : decide (((jnT (sortV L) L.length).length : Int) > 65536) = false := decide_eq_false (by omega)
            repeat' (refine BR.mk (fun h => ?_) (fun h => ?_) <;> first | with_reducible exact Bool.noConfusion h | with_reducible exact Bool.noConfusion (k3.symm.trans h) | with_reducible exact Bool.noConfusion (k4.symm.trans h) | skip)
            refine Fini.mk ?_
            rw [fin_join hne, if_neg hlong]; rfl
end
theorem pc_rfin (name : List UInt8) (hm : name ∈ names) (d : Bool) (l : List V) (hd : (d && name == sStar) = false) (hR : RF l) : PC Tryz.prog GV 17 [.str name, .bool d, .sl .no l.length (vF l)] (encR (finalS name (totA name (cntL name d l)))) := by
  rcases (known_is name).1 hm with rfl | rfl | rfl | rfl | rfl | rfl | rfl
  · exact rfin_count d l hd hR
  · exact rfin_star d l hd hR
  · exact rfin_sum d l hd hR
  · exact rfin_total d l hd hR
  · exact rfin_min d l hd hR
  · exact rfin_max d l hd hR
  · exact rfin_concat d l hd hR
noncomputable def h_rfin : List AV → CR
  | [.str name, .bool d, .sl _ n f] => @CR.need (name ∈ names ∧ (d && name == sStar) = false ∧ (∀ i, i < n → isV (f i) = true) ∧ RF (lO n f)) (Classical.propDecidable _) (encR (finalS name (totA name (cntL name d (lO n f)))))
  | _ => .no
theorem h_rfin_ok (xs : List AV) : CRok Tryz.prog GV 17 xs (h_rfin xs) := by
  unfold h_rfin
  split
  · rename_i name d tag n f
    rintro ⟨hm, hd, hf, hR⟩
    refine pc_args ?_ (pc_rfin name hm d (lO n f) hd hR)
    intro X vs h
    cases h with | cons h1 hs => cases hs with | cons h2 hs => cases hs with | cons h3 hs =>
    rw [lO_len]
    exact .cons h1 (.cons h2 (.cons (rep_slice (fun i hi => lO_get hf i hi) (rep_tag h3)) hs))
  · trivial
noncomputable def ET11 : Env := ET7.add 17 h_rfin
theorem ET11_ok : EnvOk Tryz.prog ET11 := Env.add_ok ET7_ok (by kernel_rfl) h_rfin_ok

end Go.Proofs.YtejepcnoflahkaaGreatDoor
end

section
namespace Go.Proofs.YtejepcnoflahkaaGreatDoor
open Go Go.Ab
set_option linter.unusedVariables false
set_option linter.unusedSimpArgs false
set_option maxRecDepth 100000
set_option maxHeartbeats 8000000

noncomputable def EUb : Env := ET11.addH 10 h_newBad
theorem EUb_ok : EnvOk Tryz.prog EUb := Env.addH_ok ET11_ok (by kernel_rfl) h_newBad_ok
noncomputable def EU1 : Env := ET11.addH 10 h_new
theorem EU1_ok : EnvOk Tryz.prog EU1 := Env.addH_ok ET11_ok (by kernel_rfl) h_new_ok
noncomputable def EU2 : Env := EU1.addH 14 h_step
theorem EU2_ok : EnvOk Tryz.prog EU2 := Env.addH_ok EU1_ok (by kernel_rfl) h_step_ok
/-- the right ones of the first i -/
def rgt (l : List V) (i : Nat) : List V := (l.take i).filter right
theorem rgt_step {l : List V} {i : Nat} (h : i < l.length) : rgt l (i + 1) = rgt l i ++ (if right (l.getD i null) = true then [l.getD i null] else []) := by
  unfold rgt
  rw [take_snoc h, List.filter_append]
  congr 1
  cases hr : right (l.getD i null) with
  | true => rw [List.filter_cons_of_pos hr]; rfl
  | false => rw [List.filter_cons_of_neg (by rw [hr]; decide)]; rfl
theorem rgt_len (l : List V) (i : Nat) : (rgt l i).length ≤ l.length := by
  unfold rgt
  have h1 := List.length_filter_le right (l.take i)
  rw [List.length_take] at h1
  omega
theorem rgt_ok {l : List V} (hl : l.length ≤ 1000) (hi : ∀ x ∈ l, i64 x.n) (i : Nat) : RF (rgt l i) :=
  ⟨Nat.le_trans (rgt_len l i) hl, fun x hx => (List.mem_filter.1 hx).2, fun x hx => hi x (List.mem_of_mem_take (List.mem_filter.1 hx).1)⟩
theorem foldA_right (name : List UInt8) (d : Bool) : ∀ (l : List V) (a : Acc), foldA name d a l = foldA name d a (l.filter right)
  | [], _ => rfl
  | x :: l, a => by
    cases hr : right x with
    | true =>
      rw [List.filter_cons_of_pos hr]
      exact foldA_right name d l _
    | false =>
      rw [List.filter_cons_of_neg (by simp [hr])]
      have e : stepS name d a x = a := by unfold stepS; rw [hr]; rfl
      show foldA name d (stepS name d a x) l = _
      rw [e]
      exact foldA_right name d l a
@[reducible] def fA8 (nm : List UInt8) (d : Bool) (l : List V) (i : Nat) : Acc := foldA nm d acc0 (l.take i)
@[reducible] def oA8 (a : Acc) : Acc := accO a.n a.hi a.lo ⟨a.best.k, a.best.n, a.best.s⟩ a.l.length (vF a.l) (sO (encM a.seen))
theorem oA8_self (a : Acc) : oA8 a = a := accO_self a
theorem enc_ren8 (ρ θ : Nat → Nat) (l : List (List UInt8 × Int)) : ((encM l).map fun p => (ren ρ θ p.1, ren ρ θ p.2)) = encM (sO ((encM l).map fun p => (ren ρ θ p.1, ren ρ θ p.2))) := by rw [ren_enc, sO_enc]
theorem oA8_ren (ρ θ : Nat → Nat) (a : Acc) : accO a.n a.hi a.lo ⟨a.best.k, a.best.n, a.best.s⟩ a.l.length (vF a.l) (sO ((encM a.seen).map fun p => (ren ρ θ p.1, ren ρ θ p.2))) = a := by
  rw [ren_enc]; exact accO_self a
theorem fA8_step (nm : List UInt8) (d : Bool) (l : List V) (i : Nat) (h : i < l.length) : stepS nm d (oA8 (fA8 nm d l i)) ⟨(l.getD ((i : Int)).toNat null).k, (l.getD ((i : Int)).toNat null).n, (l.getD ((i : Int)).toNat null).s⟩ = fA8 nm d l (i + 1) := by
  rw [oA8_self]
  unfold fA8
  rw [foldA_take _ _ _ _ _ h]
  rfl
structure FOk8 (nm : List UInt8) (a : Acc) : Prop where
  lo : u64 a.lo
  hi : u64 a.hi
  n : nm = sConcat → a.n = 0 ∨ 0 < a.l.length
  len : a.l.length ≤ 1000
  r : ∀ x ∈ a.l, right x = true
  i : ∀ x ∈ a.l, i64 x.n
theorem fA8_ok {nm : List UInt8} {d : Bool} {l : List V} (hl : l.length ≤ 1000) (hi : ∀ x ∈ l, i64 x.n) (i : Nat) : FOk8 nm (fA8 nm d l i) := by
  have e : fA8 nm d l i = foldA nm d acc0 ((rgt l i).take (rgt l i).length) := by
    rw [List.take_length]; exact foldA_right nm d (l.take i) acc0
  have hR := rgt_ok hl hi i
  have ok := accOk_take (name := nm) (d := d) (l := rgt l i) (Nat.le_trans hR.len (by decide)) (rgt l i).length (Nat.le_refl _)
  rw [e]
  have := hR.len
  exact ⟨ok.lo, ok.hi, fun e => by have := ok.n e; omega, by have := ok.len; omega, fun x hx => hR.r x (ok.sub x hx), fun x hx => hR.i x (ok.sub x hx)⟩
@[reducible] def oR8 (ρ θ : Nat → Nat) (a : Acc) : Acc := accO a.n a.hi a.lo ⟨a.best.k, a.best.n, a.best.s⟩ a.l.length (vF a.l) (sO ((encM a.seen).map fun p => (ren ρ θ p.1, ren ρ θ p.2)))
theorem oR8_self (ρ θ : Nat → Nat) (a : Acc) : oR8 ρ θ a = a := oA8_ren ρ θ a
theorem lO_snoc (L : List V) (x : V) (g : Nat → AV) (hg : g 0 = encV x) : lO (L.length + 1) (joinF L.length (vF L) g) = L ++ [x] := by
  have h := lO_vF (L ++ [x])
  rw [List.length_append] at h
  rw [← h]
  unfold lO
  refine List.map_congr_left fun j hj => ?_
  rw [snoc_at L x g hg j (by simpa using hj)]
theorem isV_snoc (L : List V) (x : V) (g : Nat → AV) (hg : g 0 = encV x) (j : Nat) (hj : j < L.length + 1) : isV (joinF L.length (vF L) g j) = true := by
  rw [snoc_at L x g hg j hj]; rfl
@[reducible] def oneV (fs : List (Nat × Nat × Bool)) (k n : Int) (s : List UInt8) : Nat → AV := elemA (TD.struct fs).agg 3 [.int .u8 k, .int .i64 n, .str s]
/-- what the total comes to is what the document says -/
theorem fin_is {nm : List UInt8} {d : Bool} {l : List V} (he : newE nm d = 0) (hl : l.length ≤ 1000) (hi : ∀ x ∈ l, i64 x.n) (i : Nat) : finalS nm (fA8 nm d l i) = finalS nm (totA nm (cntL nm d (rgt l i))) := by
  have hR := rgt_ok hl hi i
  have h := of_tot (name := nm) (d := d) (l := rgt l i) he (fun x hx => ⟨hR.r x hx, hR.i x hx⟩) (Nat.lt_of_le_of_lt hR.len (by decide))
  rw [← h]
  unfold ofS
  rw [if_neg (by omega), if_pos (List.all_eq_true.2 hR.r)]
  exact congrArg (finalS nm) (foldA_right nm d (l.take i) acc0)
theorem small_is {l : List V} (h : smallL l 40 100 = true) : l.length ≤ 40 := by
  unfold smallL at h
  rw [Bool.and_eq_true] at h
  have := of_decide_eq_true h.1
  omega
set_option smartUnfolding false in
theorem tells_none (name : List UInt8) (d : Bool) (l : List V) (hl : l.length ≤ 9223372036854775807) (hS : smallL l 40 100 = false) : PC Tryz.prog GV 3 [.str name, .bool d, .sl .no l.length (vF l)] (.bool true) := by
  refine pc_fin EU2_ok mixed (show Tryz.prog.funcs[3]? = some Tryz.f3 from rfl) ?_
  have k1 : (!smallL (lO l.length (vF l)) 40 100) = true := by rw [lO_vF, hS]; rfl
  repeat' (refine BR.mk (fun h => ?_) (fun h => ?_) <;> first | with_reducible exact Bool.noConfusion h | with_reducible exact Bool.noConfusion (k1.symm.trans h) | skip)
  · exact ⟨fun _ _ => rfl, hl⟩
  · exact Fini.mk rfl
set_option smartUnfolding false in
theorem tells_bad (name : List UInt8) (d : Bool) (l : List V) (hS : smallL l 40 100 = true) (hE : newE name d ≠ 0) : PC Tryz.prog GV 3 [.str name, .bool d, .sl .no l.length (vF l)] (.bool true) := by
  have h40 := small_is hS
  refine pc_fin EUb_ok mixed (show Tryz.prog.funcs[3]? = some Tryz.f3 from rfl) ?_
  have k1 : (!smallL (lO l.length (vF l)) 40 100) = false := by rw [lO_vF, hS]; rfl
  have k3 : (newE name d != 0) = true := by rw [bne_dec]; exact decide_eq_true hE
  have kn : (!(decide (name ∈ names) == decide (name ∈ names))) = false := by simp
  have ke : (newE name d != newE name d) = false := by simp
  have kp : (!(true == (newE name d != 0))) = false := by rw [k3]; rfl
  repeat' (refine BR.mk (fun h => ?_) (fun h => ?_) <;> first | with_reducible exact Bool.noConfusion h | with_reducible exact Bool.noConfusion (k1.symm.trans h) | with_reducible exact Bool.noConfusion (k3.symm.trans h) | with_reducible exact Bool.noConfusion (kn.symm.trans h) | with_reducible exact Bool.noConfusion (ke.symm.trans h) | with_reducible exact Bool.noConfusion (kp.symm.trans h) | skip)
  · exact ⟨fun _ _ => rfl, by omega⟩
  · exact hE
  · exact Fini.mk rfl
set_option smartUnfolding false in
theorem tells_good (name : List UInt8) (d : Bool) (l : List V) (hi : ∀ x ∈ l, i64 x.n) (hS : smallL l 40 100 = true) (hE : newE name d = 0) : PC Tryz.prog GV 3 [.str name, .bool d, .sl .no l.length (vF l)] (.bool true) := by
  have h40 := small_is hS
  obtain ⟨hm, hd⟩ := newE_zero hE
  have hl : l.length ≤ 1000 := by omega
  refine pc_fin EU2_ok mixed (show Tryz.prog.funcs[3]? = some Tryz.f3 from rfl) ?_
  have k1 : (!smallL (lO l.length (vF l)) 40 100) = false := by rw [lO_vF, hS]; rfl
  have kn : (!(decide (name ∈ names) == decide (name ∈ names))) = false := by simp
  have ke : ((0 : Int) != newE name d) = false := by rw [hE]; rfl
  repeat' (refine BR.mk (fun h => ?_) (fun h => ?_) <;> first | with_reducible exact Bool.noConfusion h | with_reducible exact Bool.noConfusion (k1.symm.trans h) | with_reducible exact Bool.noConfusion (kn.symm.trans h) | with_reducible exact Bool.noConfusion (ke.symm.trans h) | exact absurd h (by decide) | skip)
  · exact ⟨fun _ _ => rfl, by omega⟩
  · exact ⟨hm, hd⟩
  refine loop_fam EU2_ok mixed (σ := Nat) (fun i => i ≤ l.length) (fun i => l.length - i) 0 (Nat.zero_le _) 2 2 [0, 1, 2, 7] (fun i => [(10, .sl (.tok 1) (rgt l i).length (vF (rgt l i))), (11, .int .i64 i)]) []
    (fun i => [(0, .cells (accJ name d (fA8 name d l i) 0 1)), (1, .map (encM (fA8 name d l i).seen))]) (fun i => [(0, (fA8 name d l i).l.length, 34), (1, (rgt l i).length, 34)]) ?_ ?_ ?_ ?_
  · rfl
  · rfl
  · refine Wk.mk' rfl rfl ⟨fun _ => rfl, fun _ => trivial⟩ ?_ ?_
    · repeat' (refine BR.mk (fun _ => ?_) (fun _ => ?_))
      any_goals first | exact trivial | exact Wv.any _ | (refine Wv.int ?_; with_reducible rfl) | (refine Wv.str ?_; with_reducible rfl) | (refine Wv.bool ?_; with_reducible rfl) | refine Wv.int ?_ | refine Wv.str ?_ | refine Wv.bool ?_ | exact Wv.same rfl
      · exact Wv.sl rfl (fun j hj => absurd hj (Nat.not_lt_zero _)) ⟨Nat.le_of_ble_eq_true rfl, _, rfl⟩
      · rfl
    · repeat' (refine BR.mk (fun _ => ?_) (fun _ => ?_))
      any_goals first | exact trivial | exact Wv.any _ | (refine Wv.int ?_; with_reducible rfl) | (refine Wv.str ?_; with_reducible rfl) | (refine Wv.bool ?_; with_reducible rfl) | refine Wv.int ?_ | refine Wv.str ?_ | refine Wv.bool ?_ | exact Wv.same rfl
      · exact ⟨Nat.le_of_ble_eq_true rfl, .inl ⟨rfl, _, rfl, WvL.same rfl⟩⟩
      · exact ⟨Nat.le_of_ble_eq_true rfl, .inl ⟨rfl, _, rfl, rfl, rfl, rfl⟩⟩
  · intro i hil
    have ok := fA8_ok (nm := name) (d := d) hl hi i
    by_cases hlt : i < l.length
    · have k3 : decide ((i : Int) < (l.length : Int)) = true := decide_eq_true (by omega)
      have ok' := fA8_ok (nm := name) (d := d) hl hi (i + 1)
      have hS8 := fA8_step name d l i hlt
      rw [← hS8] at ok'
      have w1 : IntKind.i64.wrap ((i : Int) + 1) = ((i + 1 : Nat) : Int) := (wrap_id (by unfold i64; omega)).trans (by omega)
      have zi : (0 : Int) ≤ (i : Int) ∧ (i : Int) < (l.length : Int) := ⟨by omega, by omega⟩
      have hxi : i64 (l.getD i null).n := hi _ (getD_mem hlt)
      have hXa : ∀ ρ θ, finalS name (oR8 ρ θ (stepS name d (oA8 (fA8 name d l i)) ⟨(l.getD ((i : Int)).toNat null).k, (l.getD ((i : Int)).toNat null).n, (l.getD ((i : Int)).toNat null).s⟩)) = finalS name (totA name (cntL name d (rgt l (i + 1)))) := fun ρ θ => by
        rw [oR8_self, hS8]; exact fin_is hE hl hi (i + 1)
      have hRl := rgt_len l i
      have hR1 := rgt_ok hl hi (i + 1)
      have hgs := rgt_step hlt
      by_cases hr : right (l.getD i null) = true
      · have hgs : rgt l (i + 1) = rgt l i ++ [l.getD i null] := by rw [hgs, if_pos hr]
        have hY : ∀ g : Nat → AV, g 0 = encV (l.getD i null) → lO ((rgt l i).length + 1) (joinF (rgt l i).length (vF (rgt l i)) g) = rgt l (i + 1) := fun g hg => by rw [hgs]; exact lO_snoc _ _ g hg
        have sE : stepE ⟨(l.getD ((i : Int)).toNat null).k, (l.getD ((i : Int)).toNat null).n, (l.getD ((i : Int)).toNat null).s⟩ = 0 := by show stepE (l.getD i null) = 0; unfold stepE; rw [if_pos hr]
        have q1 : (!((stepE ⟨(l.getD ((i : Int)).toNat null).k, (l.getD ((i : Int)).toNat null).n, (l.getD ((i : Int)).toNat null).s⟩ == 0) == right ⟨(l.getD ((i : Int)).toNat null).k, (l.getD ((i : Int)).toNat null).n, (l.getD ((i : Int)).toNat null).s⟩)) = false := by rw [sE]; show (!((0 : Int) == 0) == right (l.getD i null)) = false; rw [hr]; rfl
        have q2 : (stepE ⟨(l.getD ((i : Int)).toNat null).k, (l.getD ((i : Int)).toNat null).n, (l.getD ((i : Int)).toNat null).s⟩ != 0) = false := by rw [sE]; rfl
        have q3 : (stepE ⟨(l.getD ((i : Int)).toNat null).k, (l.getD ((i : Int)).toNat null).n, (l.getD ((i : Int)).toNat null).s⟩ == 0) = true := by rw [sE]; rfl
        have kA : ∀ ρ θ fs, (!((finalS name (oR8 ρ θ (stepS name d (oA8 (fA8 name d l i)) ⟨(l.getD ((i : Int)).toNat null).k, (l.getD ((i : Int)).toNat null).n, (l.getD ((i : Int)).toNat null).s⟩))).v.k == (finalS name (totA name (cntL name d (lO ((rgt l i).length + 1) (joinF (rgt l i).length (vF (rgt l i)) (oneV fs (l.getD ((i : Int)).toNat null).k (l.getD ((i : Int)).toNat null).n (l.getD ((i : Int)).toNat null).s)))))).v.k && ((finalS name (oR8 ρ θ (stepS name d (oA8 (fA8 name d l i)) ⟨(l.getD ((i : Int)).toNat null).k, (l.getD ((i : Int)).toNat null).n, (l.getD ((i : Int)).toNat null).s⟩))).v.n == (finalS name (totA name (cntL name d (lO ((rgt l i).length + 1) (joinF (rgt l i).length (vF (rgt l i)) (oneV fs (l.getD ((i : Int)).toNat null).k (l.getD ((i : Int)).toNat null).n (l.getD ((i : Int)).toNat null).s)))))).v.n && ((finalS name (oR8 ρ θ (stepS name d (oA8 (fA8 name d l i)) ⟨(l.getD ((i : Int)).toNat null).k, (l.getD ((i : Int)).toNat null).n, (l.getD ((i : Int)).toNat null).s⟩))).v.s == (finalS name (totA name (cntL name d (lO ((rgt l i).length + 1) (joinF (rgt l i).length (vF (rgt l i)) (oneV fs (l.getD ((i : Int)).toNat null).k (l.getD ((i : Int)).toNat null).n (l.getD ((i : Int)).toNat null).s)))))).v.s && true)))) = false := fun ρ θ fs => by
          rw [hXa, hY _ rfl]; simp
        have kB : ∀ ρ θ fs, ((finalS name (oR8 ρ θ (stepS name d (oA8 (fA8 name d l i)) ⟨(l.getD ((i : Int)).toNat null).k, (l.getD ((i : Int)).toNat null).n, (l.getD ((i : Int)).toNat null).s⟩))).e != (finalS name (totA name (cntL name d (lO ((rgt l i).length + 1) (joinF (rgt l i).length (vF (rgt l i)) (oneV fs (l.getD ((i : Int)).toNat null).k (l.getD ((i : Int)).toNat null).n (l.getD ((i : Int)).toNat null).s)))))).e) = false := fun ρ θ fs => by
          rw [hXa, hY _ rfl]; simp
        repeat' (refine BR.mk (fun h => ?_) (fun h => ?_) <;> first | with_reducible exact Bool.noConfusion h | with_reducible exact Bool.noConfusion (k3.symm.trans h) | with_reducible exact Bool.noConfusion (q1.symm.trans h) | with_reducible exact Bool.noConfusion (q2.symm.trans h) | with_reducible exact Bool.noConfusion (q3.symm.trans h) | with_reducible exact Bool.noConfusion ((kA _ _ _).symm.trans h) | with_reducible exact Bool.noConfusion ((kB _ _ _).symm.trans h) | skip)
        · exact ⟨zi, rfl, rfl⟩
        · exact ⟨by decide, rfl, fun _ _ => rfl, by rw [sO_enc], hm, ok.hi, ok.lo, hxi, by have := ok.len; omega⟩
        · exact ⟨zi, rfl, rfl⟩
        · exact ⟨zi, rfl, rfl⟩
        · exact ⟨rfl, Nat.le_of_ble_eq_true rfl, rfl, by show ((rgt l i).length + 1) * 32 ≤ _; omega, by show (rgt l i).length + 1 ≤ _; omega, fun q _ => rfl, lt_one rfl, lt_one rfl⟩
        · exact ⟨show ([0, 1] : List Nat).Nodup by decide, rfl, fun _ _ => rfl, enc_ren8 _ _ _, hm, ok'.lo, ok'.n, ok'.len, fun x h => ok'.r x ((lO_vF _).subst (motive := fun m => x ∈ m) h), fun x h => ok'.i x ((lO_vF _).subst (motive := fun m => x ∈ m) h)⟩
        · exact ⟨hm, hd, isV_snoc _ _ _ rfl, by rw [hY _ rfl]; exact hR1⟩
        · refine Again.fam (i + 1) hlt (by show l.length - (i + 1) < l.length - i; omega) rfl rfl rfl rfl ⟨fun _ => ?_, fun _ => ⟨fun _ => ?_, fun _ => trivial⟩⟩ ?_ ?_
          · exact congrArg (fun m : List V => some (m.length, 34)) hgs |>.trans (congrArg (fun n => some (n, 34)) (List.length_append ..))
          · exact congrArg (fun a : Acc => some (a.l.length, 34)) ((oA8_ren _ _ _).trans hS8).symm
          · repeat' (refine BR.mk (fun _ => ?_) (fun _ => ?_))
            any_goals first | exact trivial | exact Wv.any _ | (refine Wv.int ?_; with_reducible rfl) | (refine Wv.str ?_; with_reducible rfl) | (refine Wv.bool ?_; with_reducible rfl) | refine Wv.int ?_ | refine Wv.str ?_ | refine Wv.bool ?_ | exact Wv.same rfl
            · rw [hgs, List.length_append]
              exact Wv.sl rfl (fun j hj => snoc_at _ _ _ rfl j hj) ⟨rfl, Nat.le_of_ble_eq_true rfl⟩
            · exact w1
          · repeat' (refine BR.mk (fun _ => ?_) (fun _ => ?_))
            any_goals first | exact trivial | exact Wv.any _ | (refine Wv.int ?_; with_reducible rfl) | (refine Wv.str ?_; with_reducible rfl) | (refine Wv.bool ?_; with_reducible rfl) | refine Wv.int ?_ | refine Wv.str ?_ | refine Wv.bool ?_ | exact Wv.same rfl
            · exact ⟨Nat.le_of_ble_eq_true rfl, .inl ⟨rfl, _, rfl, wvl_acc (θ := nam [0] 2) (ρ := nam [0, 1] 2) ((oA8_ren _ _ _).trans hS8) rfl rfl (Nat.le_of_ble_eq_true rfl) rfl⟩⟩
            · exact ⟨Nat.le_of_ble_eq_true rfl, .inl ⟨rfl, _, rfl, wvb_map (ρ := nam [0, 1] 2) (θ := nam [0] 2) (congrArg Acc.seen ((oA8_ren _ _ _).trans hS8))⟩⟩
      · have hr : right (l.getD i null) = false := by simpa using hr
        have hgs : rgt l (i + 1) = rgt l i := by rw [hgs, if_neg (by rw [hr]; decide), List.append_nil]
        have sE : stepE ⟨(l.getD ((i : Int)).toNat null).k, (l.getD ((i : Int)).toNat null).n, (l.getD ((i : Int)).toNat null).s⟩ = 2 := by show stepE (l.getD i null) = 2; unfold stepE; rw [if_neg (by rw [hr]; decide)]
        have q1 : (!((stepE ⟨(l.getD ((i : Int)).toNat null).k, (l.getD ((i : Int)).toNat null).n, (l.getD ((i : Int)).toNat null).s⟩ == 0) == right ⟨(l.getD ((i : Int)).toNat null).k, (l.getD ((i : Int)).toNat null).n, (l.getD ((i : Int)).toNat null).s⟩)) = false := by rw [sE]; show (!((2 : Int) == 0) == right (l.getD i null)) = false; rw [hr]; rfl
        have q2 : (stepE ⟨(l.getD ((i : Int)).toNat null).k, (l.getD ((i : Int)).toNat null).n, (l.getD ((i : Int)).toNat null).s⟩ != 0) = true := by rw [sE]; rfl
        have q4 : (stepE ⟨(l.getD ((i : Int)).toNat null).k, (l.getD ((i : Int)).toNat null).n, (l.getD ((i : Int)).toNat null).s⟩ != 2) = false := by rw [sE]; rfl
        have q3 : (stepE ⟨(l.getD ((i : Int)).toNat null).k, (l.getD ((i : Int)).toNat null).n, (l.getD ((i : Int)).toNat null).s⟩ == 0) = false := by rw [sE]; rfl
        have kA : ∀ ρ θ, (!((finalS name (oR8 ρ θ (stepS name d (oA8 (fA8 name d l i)) ⟨(l.getD ((i : Int)).toNat null).k, (l.getD ((i : Int)).toNat null).n, (l.getD ((i : Int)).toNat null).s⟩))).v.k == (finalS name (totA name (cntL name d (lO (rgt l i).length (vF (rgt l i)))))).v.k && ((finalS name (oR8 ρ θ (stepS name d (oA8 (fA8 name d l i)) ⟨(l.getD ((i : Int)).toNat null).k, (l.getD ((i : Int)).toNat null).n, (l.getD ((i : Int)).toNat null).s⟩))).v.n == (finalS name (totA name (cntL name d (lO (rgt l i).length (vF (rgt l i)))))).v.n && ((finalS name (oR8 ρ θ (stepS name d (oA8 (fA8 name d l i)) ⟨(l.getD ((i : Int)).toNat null).k, (l.getD ((i : Int)).toNat null).n, (l.getD ((i : Int)).toNat null).s⟩))).v.s == (finalS name (totA name (cntL name d (lO (rgt l i).length (vF (rgt l i)))))).v.s && true)))) = false := fun ρ θ => by
          rw [hXa, lO_vF, hgs]; simp
        have kB : ∀ ρ θ, ((finalS name (oR8 ρ θ (stepS name d (oA8 (fA8 name d l i)) ⟨(l.getD ((i : Int)).toNat null).k, (l.getD ((i : Int)).toNat null).n, (l.getD ((i : Int)).toNat null).s⟩))).e != (finalS name (totA name (cntL name d (lO (rgt l i).length (vF (rgt l i)))))).e) = false := fun ρ θ => by
          rw [hXa, lO_vF, hgs]; simp
        repeat' (refine BR.mk (fun h => ?_) (fun h => ?_) <;> first | with_reducible exact Bool.noConfusion h | with_reducible exact Bool.noConfusion (k3.symm.trans h) | with_reducible exact Bool.noConfusion (q1.symm.trans h) | with_reducible exact Bool.noConfusion (q2.symm.trans h) | with_reducible exact Bool.noConfusion (q3.symm.trans h) | with_reducible exact Bool.noConfusion (q4.symm.trans h) | with_reducible exact Bool.noConfusion ((kA _ _).symm.trans h) | with_reducible exact Bool.noConfusion ((kB _ _).symm.trans h) | skip)
        · exact ⟨zi, rfl, rfl⟩
        · exact ⟨by decide, rfl, fun _ _ => rfl, by rw [sO_enc], hm, ok.hi, ok.lo, hxi, by have := ok.len; omega⟩
        · exact ⟨zi, rfl, rfl⟩
        · exact ⟨show ([0, 1] : List Nat).Nodup by decide, rfl, fun _ _ => rfl, enc_ren8 _ _ _, hm, ok'.lo, ok'.n, ok'.len, fun x h => ok'.r x ((lO_vF _).subst (motive := fun m => x ∈ m) h), fun x h => ok'.i x ((lO_vF _).subst (motive := fun m => x ∈ m) h)⟩
        · exact ⟨hm, hd, fun _ _ => rfl, by rw [lO_vF, ← hgs]; exact hR1⟩
        · refine Again.fam (i + 1) hlt (by show l.length - (i + 1) < l.length - i; omega) rfl rfl rfl rfl ⟨fun _ => ?_, fun _ => ⟨fun _ => ?_, fun _ => trivial⟩⟩ ?_ ?_
          · exact congrArg (fun m : List V => some (m.length, 34)) hgs
          · exact congrArg (fun a : Acc => some (a.l.length, 34)) ((oA8_ren _ _ _).trans hS8).symm
          · repeat' (refine BR.mk (fun _ => ?_) (fun _ => ?_))
            any_goals first | exact trivial | exact Wv.any _ | (refine Wv.int ?_; with_reducible rfl) | (refine Wv.str ?_; with_reducible rfl) | (refine Wv.bool ?_; with_reducible rfl) | refine Wv.int ?_ | refine Wv.str ?_ | refine Wv.bool ?_ | exact Wv.same rfl
            · rw [hgs]
              exact Wv.sl rfl (fun j hj => rfl) ⟨rfl, Nat.le_of_ble_eq_true rfl⟩
            · exact w1
          · repeat' (refine BR.mk (fun _ => ?_) (fun _ => ?_))
            any_goals first | exact trivial | exact Wv.any _ | (refine Wv.int ?_; with_reducible rfl) | (refine Wv.str ?_; with_reducible rfl) | (refine Wv.bool ?_; with_reducible rfl) | refine Wv.int ?_ | refine Wv.str ?_ | refine Wv.bool ?_ | exact Wv.same rfl
            · exact ⟨Nat.le_of_ble_eq_true rfl, .inl ⟨rfl, _, rfl, wvl_acc (θ := nam [0] 2) (ρ := nam [0, 1] 2) ((oA8_ren _ _ _).trans hS8) rfl rfl (Nat.le_of_ble_eq_true rfl) rfl⟩⟩
            · exact ⟨Nat.le_of_ble_eq_true rfl, .inl ⟨rfl, _, rfl, wvb_map (ρ := nam [0, 1] 2) (θ := nam [0] 2) (congrArg Acc.seen ((oA8_ren _ _ _).trans hS8))⟩⟩
    · have k3 : decide ((i : Int) < (l.length : Int)) = false := decide_eq_false (by omega)
      repeat' (refine BR.mk (fun h => ?_) (fun h => ?_) <;> first | with_reducible exact Bool.noConfusion h | with_reducible exact Bool.noConfusion (k3.symm.trans h) | skip)
      exact Fini.mk rfl
theorem pc_AggTells (name : List UInt8) (d : Bool) (l : List V) (hl : l.length ≤ 9223372036854775807) (hi : ∀ x ∈ l, i64 x.n) : PC Tryz.prog GV 3 [.str name, .bool d, .sl .no l.length (vF l)] (.bool true) := by
  cases hS : smallL l 40 100 with
  | false => exact tells_none name d l hl hS
  | true =>
    by_cases hE : newE name d = 0
    · exact tells_good name d l hi hS hE
    · exact tells_bad name d l hS hE

end Go.Proofs.YtejepcnoflahkaaGreatDoor
end
