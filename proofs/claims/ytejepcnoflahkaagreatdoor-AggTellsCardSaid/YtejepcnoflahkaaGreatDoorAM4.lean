/- The package agg, tier 10: Known, Reset, New; a total of values. The package agg, tier 11: what a total of values comes to. The package agg, tier 12: totals by any name; comes, errs, num, text, Names. The package agg, tier 13: num, text, comes, errs. The package agg, what the laws of lists of values ask first: right; Names. -/
import Derived.Test.YtejepcnoflahkaaGreatDoorAWalk9
namespace Go.Proofs.YtejepcnoflahkaaGreatDoor
open Go Go.Ab
set_option linter.unusedVariables false
set_option linter.unusedSimpArgs false
set_option maxRecDepth 100000
set_option maxHeartbeats 8000000

theorem pc_known (name : List UInt8) : PC Tryz.prog GV 12 [.str name] (.bool (decide (name ∈ names))) := by
  by_cases hm : name ∈ names
  · rw [decide_eq_true hm]
    simp only [names, List.mem_cons, List.not_mem_nil, or_false] at hm
    rcases hm with rfl | rfl | rfl | rfl | rfl | rfl | rfl
    all_goals
      refine pc_fin EB11_ok mixed (show Tryz.prog.funcs[12]? = some Tryz.f12 from rfl) ?_
      repeat' (refine BR.mk (fun h => ?_) (fun h => ?_) <;> first | contradiction | exact absurd h (by decide) | skip)
      all_goals exact Fini.mk rfl
  · rw [decide_eq_false hm]
    simp only [names, List.mem_cons, List.not_mem_nil, or_false, not_or] at hm
    obtain ⟨m1, m2, m3, m4, m5, m6, m7⟩ := hm
    refine pc_fin EB11_ok mixed (show Tryz.prog.funcs[12]? = some Tryz.f12 from rfl) ?_
    have k1 : (name == sCount) = false := by simpa using m1
    have k2 : (name == sStar) = false := by simpa using m2
    have k3 : (name == sSum) = false := by simpa using m3
    have k4 : (name == sTotal) = false := by simpa using m4
    have k5 : (name == sMin) = false := by simpa using m5
    have k6 : (name == sMax) = false := by simpa using m6
    have k7 : (name == sConcat) = false := by simpa using m7
    repeat' (refine BR.mk (fun h => ?_) (fun h => ?_) <;> first | contradiction | exact absurd (k1.symm.trans h) (by decide) | exact absurd (k2.symm.trans h) (by decide) | exact absurd (k3.symm.trans h) (by decide) | exact absurd (k4.symm.trans h) (by decide) | exact absurd (k5.symm.trans h) (by decide) | exact absurd (k6.symm.trans h) (by decide) | exact absurd (k7.symm.trans h) (by decide) | skip)
    all_goals exact Fini.mk rfl
def h_knownA : List AV → CR
  | [.str name] => .yes (.bool (decide (name ∈ names)))
  | _ => .no
theorem h_knownA_ok (xs : List AV) : CRok Tryz.prog GV 12 xs (h_knownA xs) := by
  unfold h_knownA
  split
  · exact pc_known _
  · trivial
noncomputable def EB12_0 : Env := EB11.add 12 h_knownA
theorem EB12_0_ok : EnvOk Tryz.prog EB12_0 := Env.add_ok EB11_ok (by kernel_rfl) h_knownA_ok
/-- a new one: its list is nil yet, its map is one or none -/
def newC (name : List UInt8) (d : Bool) (g : Nat → AV) (m : AV) : List AV := [.str name, .bool d, .int .i64 0, .int .u64 0, .int .u64 0, .int .u8 0, .int .i64 0, .str [], .sl .nil 0 g, m]
theorem hc_reset (name : List UInt8) (hn : name ≠ []) (d : Bool) (g : Nat → AV) : HC Tryz.prog GV 50 [.ptr 0 0] (St.small [.cells (newC name d g .nilm)] []) (.tup []) (St.mk' 0 2 0 [] [(0, .cells (newC name d (fun _ => .any) (.map 1))), (1, .map [])] []) := by
  have k0 : (name == []) = false := by simpa using hn
  refine hc_of EB12_0_ok mixed (show Tryz.prog.funcs[50]? = some Tryz.f50 from rfl) (Nat.le_of_ble_eq_true rfl) (Nat.le_of_ble_eq_true rfl) ?_
  repeat' (refine BR.mk (fun h => ?_) (fun h => ?_) <;> first | contradiction | exact absurd (k0.symm.trans h) (by decide) | skip)
  · exact (show commutes _ _ = true by kernel_rfl)
  · refine Go.Ab.Left.mk (Nat.le_refl _) ⟨[], fun _ _ => rfl, Wv.same rfl, Wk.mk' rfl rfl trivial trivial ?_⟩
    refine BR.mk (fun _ => ?_) fun _ => BR.mk (fun _ => ?_) fun _ => trivial
    · exact ⟨Nat.le_of_ble_eq_true rfl, .inl ⟨rfl, _, rfl, WvL.same rfl⟩⟩
    · exact ⟨Nat.le_of_ble_eq_true rfl, .inl ⟨rfl, _, rfl, rfl, rfl, rfl⟩⟩
/-- Reset of what New did not make -/
theorem hc_reset_none : HC Tryz.prog GV 50 [.nilp] (St.small [] []) (.tup []) (St.mk' 0 0 0 [] [] []) := by
  refine hc_of EB12_0_ok mixed (show Tryz.prog.funcs[50]? = some Tryz.f50 from rfl) (Nat.le_of_ble_eq_true rfl) (Nat.le_of_ble_eq_true rfl) ?_
  repeat' (refine BR.mk (fun h => ?_) (fun h => ?_) <;> try contradiction)
  all_goals exact Go.Ab.Left.mk (Nat.le_refl _) ⟨[], fun _ _ => rfl, Wv.same rfl, Wk.mk' rfl rfl trivial trivial trivial⟩
theorem hc_reset_zero (d : Bool) (g : Nat → AV) (m : AV) (hm : m = .nilm) : HC Tryz.prog GV 50 [.ptr 0 0] (St.small [.cells (newC [] d g m)] []) (.tup []) (St.mk' 0 1 0 [] [(0, .cells (newC [] d g m))] []) := by
  subst hm
  refine hc_of EB12_0_ok mixed (show Tryz.prog.funcs[50]? = some Tryz.f50 from rfl) (Nat.le_of_ble_eq_true rfl) (Nat.le_of_ble_eq_true rfl) ?_
  repeat' (refine BR.mk (fun h => ?_) (fun h => ?_) <;> try contradiction)
  all_goals try (refine Go.Ab.Left.mk (Nat.le_refl _) ⟨[], fun _ _ => rfl, Wv.same rfl, Wk.mk' rfl rfl trivial trivial ?_⟩; refine BR.mk (fun _ => ?_) fun _ => trivial; exact ⟨Nat.le_of_ble_eq_true rfl, .inl ⟨rfl, _, rfl, WvL.same rfl⟩⟩)
def h_reset : List AV → St → Res
  | [.nilp], m => .ok (.tup []) (m.within (St.small [] []) (St.mk' 0 0 0 [] [] []) [] [])
  | [.ptr i 0], m => match m.h i with
    | some (.cells [.str name, .bool d, .int .i64 0, .int .u64 0, .int .u64 0, .int .u8 0, .int .i64 0, .str [], .sl .nil n g, .nilm]) => match name with
      | [] => .need (n = 0) (.tup []) (m.within (St.small [.cells (newC [] d g .nilm)] []) (St.mk' 0 1 0 [] [(0, .cells (newC [] d g .nilm))] []) [i] [])
      | c :: s => .need (n = 0) (.tup []) (m.within (St.small [.cells (newC (c :: s) d g .nilm)] []) (St.mk' 0 2 0 [] [(0, .cells (newC (c :: s) d (fun _ => .any) (.map 1))), (1, .map [])] []) [i] [])
    | _ => .fail
  | _, _ => .fail
theorem h_reset_ok (xs : List AV) (m : St) : HRok Tryz.prog GV 50 xs m (h_reset xs m) := by
  unfold h_reset
  split
  · exact hc_small hc_reset_none [] [] (Nat.le_refl _) (Nat.le_refl _) rfl (by simp) (by simp) trivial trivial
  · rename_i i
    split
    · rename_i name d n g hi
      split
      · rintro rfl
        exact hc_small (hc_reset_zero d g .nilm rfl) [i] [] (Nat.le_of_ble_eq_true rfl) (Nat.le_refl _) rfl (by simp) (by simp) ⟨⟨rfl, _, hi, leB.refl _⟩, trivial⟩ trivial
      · rename_i c s
        rintro rfl
        exact hc_small (hc_reset (c :: s) (by simp) d g) [i] [] (Nat.le_of_ble_eq_true rfl) (Nat.le_refl _) rfl (by simp) (by simp) ⟨⟨rfl, _, hi, leB.refl _⟩, trivial⟩ trivial
    · trivial
  · trivial
noncomputable def EB12 : Env := EB12_0.addH 50 h_reset
theorem EB12_ok : EnvOk Tryz.prog EB12 := Env.addH_ok EB12_0_ok (by kernel_rfl) h_reset_ok
theorem hc_new (name : List UInt8) (hm : name ∈ names) (d : Bool) (hd : (d && name == sStar) = false) : HC Tryz.prog GV 10 [.str name, .bool d] (St.small [] []) (.tup [.ptr 0 0, .int .i64 0]) (aSt name d acc0) := by
  obtain ⟨c, s, rfl⟩ : ∃ c s, name = c :: s := by
    cases name with
    | nil => exact absurd hm (by decide)
    | cons c s => exact ⟨c, s, rfl⟩
  have k1 : (!decide ((c :: s) ∈ names)) = false := by rw [decide_eq_true hm]; rfl
  refine hc_of EB12_ok mixed (show Tryz.prog.funcs[10]? = some Tryz.f10 from rfl) (Nat.le_of_ble_eq_true rfl) (Nat.le_of_ble_eq_true rfl) ?_
  repeat' (refine BR.mk (fun h => ?_) (fun h => ?_) <;> first | contradiction | exact absurd h (by decide) | exact absurd (k1.symm.trans h) (by decide) | skip)
  · exfalso
    rename_i hd1
    rw [hd1, Bool.true_and] at hd
    exact absurd (hd.symm.trans h) (by decide)
  all_goals first
    | exact rfl
    | skip
  all_goals
    refine Go.Ab.Left.mk (Nat.le_of_ble_eq_true rfl) ⟨[], fun _ _ => rfl, Wv.same rfl, Wk.mk' rfl rfl trivial trivial ?_⟩
    refine BR.mk (fun _ => ?_) fun _ => BR.mk (fun _ => ?_) fun _ => trivial
    · refine ⟨Nat.le_of_ble_eq_true rfl, .inl ⟨rfl, _, rfl, ?_⟩⟩
      refine WvL.cons (Wv.same rfl) (WvL.cons (Wv.same rfl) (WvL.cons (Wv.same rfl) (WvL.cons (Wv.same rfl) (WvL.cons (Wv.same rfl) (WvL.cons (Wv.same rfl) (WvL.cons (Wv.same rfl) (WvL.cons (Wv.same rfl) (WvL.cons ?_ (WvL.same rfl)))))))))
      exact Wv.sl rfl (fun i hi => absurd hi (Nat.not_lt_zero _)) ⟨Nat.le_refl _, _, rfl⟩
    · exact ⟨Nat.le_of_ble_eq_true rfl, .inl ⟨rfl, _, rfl, rfl, rfl, rfl⟩⟩

noncomputable def h_new : List AV → St → Res
  | [.str name, .bool d], m => @Res.need (name ∈ names ∧ (d && name == sStar) = false) (Classical.propDecidable _) (.tup [.ptr (m.nx + 0) 0, .int .i64 0]) (m.within (St.small [] []) (aSt name d acc0) [] [])
  | _, _ => .fail
theorem h_new_ok (xs : List AV) (m : St) : HRok Tryz.prog GV 10 xs m (h_new xs m) := by
  unfold h_new
  split
  · rintro ⟨h1, h2⟩
    exact hc_small (hc_new _ h1 _ h2) [] [] (Nat.zero_le _) (Nat.zero_le _) rfl (by simp) (by simp) trivial trivial
  · trivial
noncomputable def EC1 : Env := EB12.addH 10 h_new
theorem EC1_ok : EnvOk Tryz.prog EC1 := Env.addH_ok EB12_ok (by kernel_rfl) h_new_ok
noncomputable def EC2 : Env := EC1.addH 14 h_step
theorem EC2_ok : EnvOk Tryz.prog EC2 := Env.addH_ok EC1_ok (by kernel_rfl) h_step_ok
/-- a total that is held at other blocks -/
def accJ (name : List UInt8) (d : Bool) (a : Acc) (t j : Nat) : List AV := [.str name, .bool d, .int .i64 a.n, .int .u64 a.hi, .int .u64 a.lo, .int .u8 a.best.k, .int .i64 a.best.n, .str a.best.s, .sl (.tok t) a.l.length (vF a.l), .map j]
theorem accO_self (a : Acc) : accO a.n a.hi a.lo ⟨a.best.k, a.best.n, a.best.s⟩ a.l.length (vF a.l) (sO (encM a.seen)) = a := by
  unfold accO
  rw [lO_vF, sO_enc]
theorem foldA_snoc (name : List UInt8) (d : Bool) (l : List V) : ∀ (a : Acc) (v : V), foldA name d a (l ++ [v]) = stepS name d (foldA name d a l) v := by
  induction l with
  | nil => intro a v; rfl
  | cons x l ih => intro a v; exact ih _ v
theorem foldA_take (name : List UInt8) (d : Bool) (a : Acc) (l : List V) (i : Nat) (h : i < l.length) : foldA name d a (l.take (i + 1)) = stepS name d (foldA name d a (l.take i)) (l.getD i null) := by
  rw [List.take_succ_eq_append_getElem h, foldA_snoc, List.getD_eq_getElem?_getD, List.getElem?_eq_getElem h]
  rfl
theorem u64_mod (x : Int) : u64 (x % 18446744073709551616) := by unfold u64; omega
/-- what stays true of a total -/
structure AccOk (name : List UInt8) (a : Acc) (k : Nat) (l : List V) : Prop where
  hi : u64 a.hi
  lo : u64 a.lo
  len : a.l.length ≤ k
  sub : ∀ x ∈ a.l, x ∈ l
  n : name = sConcat → a.n = a.l.length
theorem accOk_step {name : List UInt8} {d : Bool} {a : Acc} {k : Nat} {l : List V} (h : AccOk name a k l) {v : V} (hv : v ∈ l) (hk : k < 1000000) : AccOk name (stepS name d a v) (k + 1) l := by
  obtain ⟨h1, h2, h3, h4, h5⟩ := h
  unfold stepS
  split
  · split
    · unfold addS
      split
      · rename_i hn
        refine ⟨u64_mod _, u64_mod _, by show a.l.length ≤ _; omega, h4, fun e => ?_⟩
        subst e; exact absurd hn (by decide)
      · split
        · rename_i hn
          subst hn
          split <;> exact ⟨h1, h2, by show a.l.length ≤ _; omega, h4, fun e => absurd e (by decide)⟩
        · split
          · rename_i hn
            subst hn
            split <;> exact ⟨h1, h2, by show a.l.length ≤ _; omega, h4, fun e => absurd e (by decide)⟩
          · split
            · rename_i hn
              subst hn
              refine ⟨h1, h2, by show (a.l ++ [v]).length ≤ _; rw [List.length_append]; show a.l.length + 1 ≤ _; omega, ?_, fun _ => ?_⟩
              · intro x hx
                rcases List.mem_append.1 hx with hx | hx
                · exact h4 x hx
                · rw [List.mem_singleton.1 hx]; exact hv
              · show IntKind.i64.wrap (a.n + 1) = ((a.l ++ [v]).length : Int)
                rw [h5 rfl, List.length_append, wrap_id (by unfold i64; omega)]
                show _ = ((a.l.length + 1 : Nat) : Int)
                omega
            · rename_i hn
              exact ⟨h1, h2, by show a.l.length ≤ _; omega, h4, fun e => absurd e hn⟩
    · exact ⟨h1, h2, by show a.l.length ≤ _; omega, h4, h5⟩
  · exact ⟨h1, h2, by omega, h4, h5⟩
theorem accOk_take {name : List UInt8} {d : Bool} {l : List V} (hl : l.length ≤ 1000000) : ∀ i, i ≤ l.length → AccOk name (foldA name d acc0 (l.take i)) i l
  | 0, _ => by
    rw [List.take_zero]
    exact ⟨by show u64 0; decide, by show u64 0; decide, Nat.le_refl _, fun x hx => absurd hx (List.not_mem_nil), fun _ => rfl⟩
  | i + 1, h => by
    rw [foldA_take _ _ _ _ _ (by omega)]
    exact accOk_step (accOk_take hl i (by omega)) (by rw [List.getD_eq_getElem?_getD, List.getElem?_eq_getElem (by omega)]; exact List.getElem_mem _) (by omega)
theorem wvl_acc {mv : List (Nat × Nat)} {s s' : St} {name : List UInt8} {d : Bool} {a a' : Acc} {ρ θ : Nat → Nat} {t j : Nat} (h : a = a') (hθ : θ 0 = t) (hρ : ρ 1 = j) (ht : t < min s.nk s'.nk) (hj : keepV mv s'.nx (min s.nk s'.nk) (.map j) = true) : WvL mv s s' (renL ρ θ (accC name d a)) (accJ name d a' t j) := by
  subst h; subst hθ; subst hρ
  exact .cons (.same rfl) (.cons (.same rfl) (.cons (.same rfl) (.cons (.same rfl) (.cons (.same rfl) (.cons (.same rfl) (.cons (.same rfl) (.cons (.same rfl) (.cons (Wv.sl rfl (fun _ _ => rfl) ⟨rfl, ht⟩) (.cons (.same hj) .nil)))))))))
theorem wvb_map {mv : List (Nat × Nat)} {s s' : St} {l l' : List (List UInt8 × Int)} {ρ θ : Nat → Nat} (h : l = l') : WvB mv s s' (.map ((encM l).map fun p => (ren ρ θ p.1, ren ρ θ p.2))) (.map (encM l')) := by
  subst h; rw [ren_enc]; exact ⟨rfl, keep_enc1 _ _ _ _, keep_enc2 _ _ _ _⟩
theorem pc_of1 (name : List UInt8) (hm : name ∈ names) (d : Bool) (hd : (d && name == sStar) = false) (l : List V) (hr : ∀ x ∈ l, right x = true) (hx : ∀ x ∈ l, i64 x.n) (hl : l.length ≤ 1000) : PC Tryz.prog GV 19 [.str name, .bool d, .sl .no l.length (vF l)] (encR (finalS name (foldA name d acc0 l))) := by
  refine pc_fin EC2_ok mixed (show Tryz.prog.funcs[19]? = some Tryz.f19 from rfl) ?_
  repeat' (refine BR.mk (fun h => ?_) (fun h => ?_) <;> try contradiction)
  · exact ⟨hm, hd⟩
  · refine loop_fam EC2_ok mixed (σ := Nat) (fun i => i ≤ l.length) (fun i => l.length - i) 0 (Nat.zero_le _) 3 1 [0, 1, 2, 6, 7, 8] (fun i => [(10, .int .i64 i)]) [0]
      (fun i => [(1, .cells (accJ name d (foldA name d acc0 (l.take i)) 0 2)), (2, .map (encM (foldA name d acc0 (l.take i)).seen))]) (fun i => [(0, (foldA name d acc0 (l.take i)).l.length, 34)]) ?_ ?_ ?_ ?_
    · rfl
    · rfl
    · refine Wk.mk' rfl rfl ⟨fun _ => rfl, fun _ => trivial⟩ ?_ ?_
      repeat' (refine BR.mk (fun _ => ?_) (fun _ => ?_))
      any_goals first | exact trivial | exact Wv.any _ | (refine Wv.int ?_; with_reducible rfl) | (refine Wv.str ?_; with_reducible rfl) | (refine Wv.bool ?_; with_reducible rfl) | refine Wv.int ?_ | refine Wv.str ?_ | refine Wv.bool ?_ | exact Wv.same rfl
      · rfl
      · exact ⟨Nat.le_of_ble_eq_true rfl, .inl ⟨rfl, _, rfl, WvL.same rfl⟩⟩
      · exact ⟨Nat.le_of_ble_eq_true rfl, .inl ⟨rfl, _, rfl, wvl_acc (θ := nam [] 0) (ρ := nam [] 1) (by rw [List.take_zero]; rfl) rfl rfl (Nat.le_of_ble_eq_true rfl) rfl⟩⟩
      · exact ⟨Nat.le_of_ble_eq_true rfl, .inl ⟨rfl, _, rfl, rfl, rfl, rfl⟩⟩
    · intro i hi
      have ok := accOk_take (name := name) (d := d) (l := l) (by omega) i hi
      have hA : i < l.length → stepS name d (accO (foldA name d acc0 (l.take i)).n (foldA name d acc0 (l.take i)).hi (foldA name d acc0 (l.take i)).lo ⟨(foldA name d acc0 (l.take i)).best.k, (foldA name d acc0 (l.take i)).best.n, (foldA name d acc0 (l.take i)).best.s⟩ (foldA name d acc0 (l.take i)).l.length (vF (foldA name d acc0 (l.take i)).l) (sO (encM (foldA name d acc0 (l.take i)).seen))) ⟨(l.getD ((i : Int)).toNat null).k, (l.getD ((i : Int)).toNat null).n, (l.getD ((i : Int)).toNat null).s⟩ = foldA name d acc0 (l.take (i + 1)) := fun h => by
        rw [accO_self, foldA_take _ _ _ _ _ h]; rfl
      have mem : i < l.length → l.getD i null ∈ l := fun h => by rw [List.getD_eq_getElem?_getD, List.getElem?_eq_getElem h]; exact List.getElem_mem _
      have he : i < l.length → stepE ⟨(l.getD ((i : Int)).toNat null).k, (l.getD ((i : Int)).toNat null).n, (l.getD ((i : Int)).toNat null).s⟩ = 0 := fun h => by
        show stepE (l.getD i null) = 0
        unfold stepE
        rw [hr _ (mem h)]; rfl
      repeat' (refine BR.mk (fun h => ?_) (fun h => ?_) <;> try contradiction)
      · have h1 : (i : Int) < (l.length : Int) := of_decide_eq_true ‹_›
        exact ⟨⟨by omega, by omega⟩, rfl, rfl⟩
      · have h1 : (i : Int) < (l.length : Int) := of_decide_eq_true ‹_›
        exact ⟨by decide, rfl, fun _ _ => rfl, by rw [sO_enc], hm, ok.hi, ok.lo, hx _ (mem (by omega)), by have := ok.len; omega⟩
      · have h1 : (i : Int) < (l.length : Int) := of_decide_eq_true ‹_›
        rw [he (by omega)] at h
        exact absurd h (by decide)
      · have h1 : (i : Int) < (l.length : Int) := of_decide_eq_true ‹_›
        refine Again.fam (i + 1) (by show i + 1 ≤ _; omega) (by show _ < _; omega) rfl rfl rfl rfl ⟨fun _ => ?_, fun _ => trivial⟩ ?_ ?_
        · exact congrArg (fun a : Acc => some (a.l.length, 34)) (hA (by omega)).symm
        · repeat' (refine BR.mk (fun _ => ?_) (fun _ => ?_))
          any_goals first | exact trivial | exact Wv.any _ | (refine Wv.int ?_; with_reducible rfl) | (refine Wv.str ?_; with_reducible rfl) | (refine Wv.bool ?_; with_reducible rfl) | refine Wv.int ?_ | refine Wv.str ?_ | refine Wv.bool ?_ | exact Wv.same rfl
          rw [wrap_id (by unfold i64; omega)]; rfl
        · repeat' (refine BR.mk (fun _ => ?_) (fun _ => ?_))
          any_goals first | exact trivial | exact Wv.any _ | (refine Wv.int ?_; with_reducible rfl) | (refine Wv.str ?_; with_reducible rfl) | (refine Wv.bool ?_; with_reducible rfl) | refine Wv.int ?_ | refine Wv.str ?_ | refine Wv.bool ?_ | exact Wv.same rfl
          · exact ⟨Nat.le_of_ble_eq_true rfl, .inl ⟨rfl, _, rfl, WvL.same rfl⟩⟩
          · exact ⟨Nat.le_of_ble_eq_true rfl, .inl ⟨rfl, _, rfl, wvl_acc (θ := nam [0] 1) (ρ := nam [1, 2] 3) (hA (by omega)) rfl rfl (Nat.le_of_ble_eq_true rfl) rfl⟩⟩
          · exact ⟨Nat.le_of_ble_eq_true rfl, .inl ⟨rfl, _, rfl, wvb_map (ρ := nam [1, 2] 3) (θ := nam [0] 1) (congrArg Acc.seen (hA (by omega)))⟩⟩
      · have h1 : ¬ (i : Int) < (l.length : Int) := of_decide_eq_false ‹_›
        exact ⟨by decide, rfl, fun _ _ => rfl, by rw [sO_enc], hm, ok.lo, fun e => by have := ok.n e; omega, by have := ok.len; omega, fun x h => hr _ (ok.sub _ (by rw [lO_vF] at h; exact h)), fun x h => hx _ (ok.sub _ (by rw [lO_vF] at h; exact h))⟩
      · have h1 : ¬ (i : Int) < (l.length : Int) := of_decide_eq_false ‹_›
        have e : i = l.length := by omega
        subst e
        have := accO_self (foldA name d acc0 l)
        refine Fini.mk ?_
        rw [List.take_length, this]
        rfl

theorem hc_new_bad (name : List UInt8) (d : Bool) (hd : newE name d ≠ 0) : HC Tryz.prog GV 10 [.str name, .bool d] (St.small [] []) (.tup [.nilp, .int .i64 (newE name d)]) (St.mk' 0 0 0 [] [] []) := by
  by_cases hm : name ∈ names
  · have k1 : (!decide (name ∈ names)) = false := by rw [decide_eq_true hm]; rfl
    have hb : (d && name == sStar) = true := by
      cases hb : d && name == sStar with
      | true => rfl
      | false => exact absurd (by unfold newE; rw [if_pos hm, hb]; rfl) hd
    have hE : newE name d = 2 := by unfold newE; rw [if_pos hm, hb]; rfl
    rw [hE]
    simp only [Bool.and_eq_true] at hb
    refine hc_of EB12_ok mixed (show Tryz.prog.funcs[10]? = some Tryz.f10 from rfl) (Nat.le_of_ble_eq_true rfl) (Nat.le_of_ble_eq_true rfl) ?_
    repeat' (refine BR.mk (fun h => ?_) (fun h => ?_) <;> first | contradiction | exact absurd h (by decide) | exact absurd (k1.symm.trans h) (by decide) | exact absurd (hb.1.symm.trans h) (by decide) | exact absurd (hb.2.symm.trans h) (by decide) | skip)
    all_goals first
      | exact Go.Ab.Left.mk (Nat.le_refl _) ⟨[], fun _ _ => rfl, Wv.same rfl, Wk.mk' rfl rfl trivial trivial trivial⟩
      | skip
    all_goals exact absurd (hb.1.symm.trans rfl) (by decide)
  · have k1 : (!decide (name ∈ names)) = true := by rw [decide_eq_false hm]; rfl
    have hE : newE name d = 21 := by unfold newE; rw [if_neg hm]
    rw [hE]
    refine hc_of EB12_ok mixed (show Tryz.prog.funcs[10]? = some Tryz.f10 from rfl) (Nat.le_of_ble_eq_true rfl) (Nat.le_of_ble_eq_true rfl) ?_
    repeat' (refine BR.mk (fun h => ?_) (fun h => ?_) <;> first | contradiction | exact absurd h (by decide) | exact absurd (k1.symm.trans h) (by decide) | skip)
    all_goals exact Go.Ab.Left.mk (Nat.le_refl _) ⟨[], fun _ _ => rfl, Wv.same rfl, Wk.mk' rfl rfl trivial trivial trivial⟩
noncomputable def h_newBad : List AV → St → Res
  | [.str name, .bool d], m => @Res.need (newE name d ≠ 0) (Classical.propDecidable _) (.tup [.nilp, .int .i64 (newE name d)]) (m.within (St.small [] []) (St.mk' 0 0 0 [] [] []) [] [])
  | _, _ => .fail
theorem h_newBad_ok (xs : List AV) (m : St) : HRok Tryz.prog GV 10 xs m (h_newBad xs m) := by
  unfold h_newBad
  split
  · intro h
    exact hc_small (hc_new_bad _ _ h) [] [] (Nat.zero_le _) (Nat.zero_le _) rfl (by simp) (by simp) trivial trivial
  · trivial
noncomputable def EC1b : Env := EB12.addH 10 h_newBad
theorem EC1b_ok : EnvOk Tryz.prog EC1b := Env.addH_ok EB12_ok (by kernel_rfl) h_newBad_ok
theorem pc_of0 (name : List UInt8) (d : Bool) (hd : newE name d ≠ 0) (n : Nat) (f : Nat → AV) : PC Tryz.prog GV 19 [.str name, .bool d, .sl .no n f] (encR ⟨null, newE name d⟩) := by
  have k : (newE name d != 0) = true := by simpa using hd
  refine pc_fin EC1b_ok mixed (show Tryz.prog.funcs[19]? = some Tryz.f19 from rfl) ?_
  repeat' (refine BR.mk (fun h => ?_) (fun h => ?_) <;> first | contradiction | exact absurd (k.symm.trans h) (by decide) | skip)
  · exact hd
  · exact Fini.mk rfl
theorem newE_zero {name : List UInt8} {d : Bool} (h : newE name d = 0) : name ∈ names ∧ (d && name == sStar) = false := by
  unfold newE at h
  split at h
  · rename_i hm
    cases hb : d && name == sStar with
    | false => exact ⟨hm, rfl⟩
    | true => rw [hb] at h; exact absurd h (by decide)
  · exact absurd h (by decide)
/-- what the values must be -/
def OkL (l : List V) : Prop := l.length ≤ 1000 ∧ (∀ x ∈ l, right x = true) ∧ ∀ x ∈ l, i64 x.n
theorem pc_of (name : List UInt8) (d : Bool) (l : List V) (h : OkL l) : PC Tryz.prog GV 19 [.str name, .bool d, .sl .no l.length (vF l)] (encR (ofS name d l)) := by
  unfold ofS
  by_cases hd : newE name d = 0
  · rw [if_neg (by omega), if_pos (List.all_eq_true.2 h.2.1)]
    obtain ⟨h1, h2⟩ := newE_zero hd
    exact pc_of1 name h1 d h2 l h.2.1 h.2.2 h.1
  · rw [if_pos hd]
    exact pc_of0 name d hd _ _
noncomputable def h_of : List AV → CR
  | [.str name, .bool d, .sl _ n f] => @CR.need ((∀ i, i < n → isV (f i) = true) ∧ OkL (lO n f)) (Classical.propDecidable _) (encR (ofS name d (lO n f)))
  | _ => .no
theorem h_of_ok (xs : List AV) : CRok Tryz.prog GV 19 xs (h_of xs) := by
  unfold h_of
  split
  · rename_i name d tag n f
    rintro ⟨hf, ho⟩
    refine pc_args ?_ (pc_of name d (lO n f) ho)
    intro X vs h
    cases h with | cons h1 hs => cases hs with | cons h2 hs => cases hs with | cons h3 hs =>
    rw [lO_len]
    exact .cons h1 (.cons h2 (.cons (rep_slice (fun i hi => lO_get hf i hi) (rep_tag h3)) hs))
  · trivial
noncomputable def ED1 : Env := EC2.add 19 h_of
theorem ED1_ok : EnvOk Tryz.prog ED1 := Env.add_ok EC2_ok (by kernel_rfl) h_of_ok

theorem pc_low_num (n : Int) : PC Tryz.prog GV 79 [.int .i64 n] (encV ⟨1, n, []⟩) := by
  refine pc_fin ED1_ok mixed (show Tryz.prog.funcs[79]? = some Tryz.f79 from rfl) ?_
  repeat' (refine BR.mk (fun h => ?_) (fun h => ?_) <;> try contradiction)
  all_goals exact Fini.mk rfl
def h_lowNum : List AV → CR
  | [.int .i64 n] => .yes (encV ⟨1, n, []⟩)
  | _ => .no
theorem h_lowNum_ok (xs : List AV) : CRok Tryz.prog GV 79 xs (h_lowNum xs) := by
  unfold h_lowNum
  split
  · exact pc_low_num _
  · trivial
noncomputable def ED2 : Env := ED1.add 79 h_lowNum
theorem ED2_ok : EnvOk Tryz.prog ED2 := Env.add_ok ED1_ok (by kernel_rfl) h_lowNum_ok
theorem pc_low_text (s : List UInt8) : PC Tryz.prog GV 72 [.str s] (encV ⟨2, 0, s⟩) := by
  refine pc_fin ED2_ok mixed (show Tryz.prog.funcs[72]? = some Tryz.f72 from rfl) ?_
  repeat' (refine BR.mk (fun h => ?_) (fun h => ?_) <;> try contradiction)
  all_goals exact Fini.mk rfl
def h_lowText : List AV → CR
  | [.str s] => .yes (encV ⟨2, 0, s⟩)
  | _ => .no
theorem h_lowText_ok (xs : List AV) : CRok Tryz.prog GV 72 xs (h_lowText xs) := by
  unfold h_lowText
  split
  · exact pc_low_text _
  · trivial
noncomputable def ED3 : Env := ED2.add 72 h_lowText
theorem ED3_ok : EnvOk Tryz.prog ED3 := Env.add_ok ED2_ok (by kernel_rfl) h_lowText_ok
theorem pc_num8 (n : Int) : PC Tryz.prog GV 47 [.int .i64 n] (encV ⟨1, n, []⟩) := by
  refine pc_fin ED3_ok mixed (show Tryz.prog.funcs[47]? = some Tryz.f47 from rfl) ?_
  repeat' (refine BR.mk (fun h => ?_) (fun h => ?_) <;> try contradiction)
  all_goals exact Fini.mk rfl
def h_num8 : List AV → CR
  | [.int .i64 n] => .yes (encV ⟨1, n, []⟩)
  | _ => .no
theorem h_num8_ok (xs : List AV) : CRok Tryz.prog GV 47 xs (h_num8 xs) := by
  unfold h_num8
  split
  · exact pc_num8 _
  · trivial
noncomputable def ED4 : Env := ED3.add 47 h_num8
theorem ED4_ok : EnvOk Tryz.prog ED4 := Env.add_ok ED3_ok (by kernel_rfl) h_num8_ok
theorem pc_text8 (s : List UInt8) : PC Tryz.prog GV 49 [.str s] (encV ⟨2, 0, s⟩) := by
  refine pc_fin ED4_ok mixed (show Tryz.prog.funcs[49]? = some Tryz.f49 from rfl) ?_
  repeat' (refine BR.mk (fun h => ?_) (fun h => ?_) <;> try contradiction)
  all_goals exact Fini.mk rfl
def h_text8 : List AV → CR
  | [.str s] => .yes (encV ⟨2, 0, s⟩)
  | _ => .no
theorem h_text8_ok (xs : List AV) : CRok Tryz.prog GV 49 xs (h_text8 xs) := by
  unfold h_text8
  split
  · exact pc_text8 _
  · trivial
noncomputable def ED5 : Env := ED4.add 49 h_text8
theorem ED5_ok : EnvOk Tryz.prog ED5 := Env.add_ok ED4_ok (by kernel_rfl) h_text8_ok
/-- does it come to that? -/
def comesS (want : V) (name : List UInt8) (d : Bool) (l : List V) : Bool := ((ofS name d l).e == 0) && (((ofS name d l).v.k == want.k) && (((ofS name d l).v.n == want.n) && (((ofS name d l).v.s == want.s) && true)))
theorem pc_comes0 (want : V) (name : List UInt8) (d : Bool) (l : List V) (ho : OkL l) : PC Tryz.prog GV 46 [encV want, .str name, .bool d, .sl .no l.length (vF l)] (.bool (comesS want name d l)) := by
  refine pc_fin ED5_ok mixed (show Tryz.prog.funcs[46]? = some Tryz.f46 from rfl) ?_
  repeat' (refine BR.mk (fun h => ?_) (fun h => ?_) <;> try contradiction)
  · exact ⟨fun _ _ => rfl, by rw [lO_vF]; exact ho⟩
  · refine Fini.mk ?_
    rw [lO_vF] at h ⊢
    unfold comesS
    rw [h, Bool.true_and]
  · refine Fini.mk ?_
    rw [lO_vF] at h
    unfold comesS
    rw [h, Bool.false_and]
noncomputable def h_comes : List AV → CR
  | [.agg [.int .u8 k, .int .i64 q, .str s], .str name, .bool d, .sl _ n f] => @CR.need ((∀ i, i < n → isV (f i) = true) ∧ OkL (lO n f)) (Classical.propDecidable _) (.bool (comesS ⟨k, q, s⟩ name d (lO n f)))
  | _ => .no
theorem h_comes_ok (xs : List AV) : CRok Tryz.prog GV 46 xs (h_comes xs) := by
  unfold h_comes
  split
  · rename_i k q s name d tag n f
    rintro ⟨hf, ho⟩
    refine pc_args ?_ (pc_comes0 ⟨k, q, s⟩ name d (lO n f) ho)
    intro X vs h
    cases h with | cons h0 hs => cases hs with | cons h1 hs => cases hs with | cons h2 hs => cases hs with | cons h3 hs =>
    rw [lO_len]
    exact .cons h0 (.cons h1 (.cons h2 (.cons (rep_slice (fun i hi => lO_get hf i hi) (rep_tag h3)) hs)))
  · trivial
noncomputable def ED6 : Env := ED5.add 46 h_comes
theorem ED6_ok : EnvOk Tryz.prog ED6 := Env.add_ok ED5_ok (by kernel_rfl) h_comes_ok
/-- does it come to that error? -/
def errsS (want : Int) (name : List UInt8) (l : List V) : Bool := ((ofS name false l).e == want) && (((ofS name false l).v.k == 0) && (((ofS name false l).v.n == 0) && (((ofS name false l).v.s == []) && true)))
theorem pc_errs80 (want : Int) (name : List UInt8) (l : List V) (ho : OkL l) : PC Tryz.prog GV 48 [.int .i64 want, .str name, .sl .no l.length (vF l)] (.bool (errsS want name l)) := by
  refine pc_fin ED6_ok mixed (show Tryz.prog.funcs[48]? = some Tryz.f48 from rfl) ?_
  repeat' (refine BR.mk (fun h => ?_) (fun h => ?_) <;> try contradiction)
  · exact ⟨fun _ _ => rfl, by rw [lO_vF]; exact ho⟩
  · refine Fini.mk ?_
    rw [lO_vF] at h ⊢
    unfold errsS
    rw [h, Bool.true_and]
  · refine Fini.mk ?_
    rw [lO_vF] at h
    unfold errsS
    rw [h, Bool.false_and]
noncomputable def h_errs8 : List AV → CR
  | [.int .i64 want, .str name, .sl _ n f] => @CR.need ((∀ i, i < n → isV (f i) = true) ∧ OkL (lO n f)) (Classical.propDecidable _) (.bool (errsS want name (lO n f)))
  | _ => .no
theorem h_errs8_ok (xs : List AV) : CRok Tryz.prog GV 48 xs (h_errs8 xs) := by
  unfold h_errs8
  split
  · rename_i want name tag n f
    rintro ⟨hf, ho⟩
    refine pc_args ?_ (pc_errs80 want name (lO n f) ho)
    intro X vs h
    cases h with | cons h0 hs => cases hs with | cons h1 hs => cases hs with | cons h3 hs =>
    rw [lO_len]
    exact .cons h0 (.cons h1 (.cons (rep_slice (fun i hi => lO_get hf i hi) (rep_tag h3)) hs))
  · trivial
noncomputable def ED7 : Env := ED6.add 48 h_errs8
theorem ED7_ok : EnvOk Tryz.prog ED7 := Env.add_ok ED6_ok (by kernel_rfl) h_errs8_ok
instance (l : List V) : Decidable (OkL l) := by unfold OkL; infer_instance
theorem pc_awake8 : PC Tryz.prog GV 9 [] (.bool true) := by
  refine pc_fin ED7_ok mixed (show Tryz.prog.funcs[9]? = some Tryz.f9 from rfl) ?_
  repeat' (refine BR.mk (fun h => ?_) (fun h => ?_) <;> first | contradiction | exact absurd h (by decide +kernel) | skip)
  · exact (show commutes _ _ = true by kernel_rfl)
  all_goals first
    | decide +kernel
    | exact Fini.mk (congrArg AV.bool (by decide +kernel))

/-- not too many, none too long -/
def smallL (l : List V) (m k : Int) : Bool := decide ((l.length : Int) ≤ m) && l.all fun v => decide ((v.s.length : Int) ≤ k)
theorem getD_mem {l : List V} {i : Nat} (h : i < l.length) : l.getD i null ∈ l := by
  rw [List.getD_eq_getElem?_getD, List.getElem?_eq_getElem h]; exact List.getElem_mem _
theorem mem_getD {l : List V} {x : V} (h : x ∈ l) : ∃ i, i < l.length ∧ l.getD i null = x := by
  obtain ⟨i, hi, e⟩ := List.getElem_of_mem h
  exact ⟨i, hi, by rw [List.getD_eq_getElem?_getD, List.getElem?_eq_getElem hi]; exact e⟩
theorem pc_small0 (l : List V) (m k : Int) (hl : l.length ≤ 9223372036854775807) : PC Tryz.prog GV 8 [.sl .no l.length (vF l), .int .i64 m, .int .i64 k] (.bool (smallL l m k)) := by
  refine pc_fin ED7_ok mixed (show Tryz.prog.funcs[8]? = some Tryz.f8 from rfl) ?_
  by_cases hm : (l.length : Int) > m
  · have k1 : decide ((l.length : Int) > m) = true := decide_eq_true hm
    have e : smallL l m k = false := by unfold smallL; rw [decide_eq_false (by omega)]; rfl
    rw [e]
    repeat' (refine BR.mk (fun h => ?_) (fun h => ?_) <;> first | with_reducible exact Bool.noConfusion h | with_reducible exact Bool.noConfusion (k1.symm.trans h) | skip)
    all_goals exact Fini.mk rfl
  · have k1 : decide ((l.length : Int) > m) = false := decide_eq_false hm
    repeat' (refine BR.mk (fun h => ?_) (fun h => ?_) <;> first | with_reducible exact Bool.noConfusion h | with_reducible exact Bool.noConfusion (k1.symm.trans h) | skip)
    refine loop_fam ED7_ok mixed (σ := Nat) (fun i => i ≤ l.length ∧ ∀ j, j < i → ((l.getD j null).s.length : Int) ≤ k) (fun i => l.length - i) 0 ⟨Nat.zero_le _, fun j h => absurd h (Nat.not_lt_zero _)⟩ 0 0 [0, 1, 2] (fun i => [(7, .int .i64 i)]) [] (fun _ => []) (fun _ => []) ?_ ?_ ?_ ?_
    · rfl
    · rfl
    · refine Wk.mk' rfl rfl trivial ?_ trivial
      repeat' (refine BR.mk (fun _ => ?_) (fun _ => ?_))
      any_goals first | exact trivial | exact Wv.any _ | (refine Wv.int ?_; with_reducible rfl) | (refine Wv.str ?_; with_reducible rfl) | (refine Wv.bool ?_; with_reducible rfl) | refine Wv.int ?_ | refine Wv.str ?_ | refine Wv.bool ?_ | exact Wv.same rfl
      all_goals rfl
    · rintro i ⟨hi1, hi2⟩
      by_cases hi : i < l.length
      · have k2 : decide ((i : Int) < (l.length : Int)) = true := decide_eq_true (by omega)
        by_cases hs : ((l.getD i null).s.length : Int) > k
        · have k3 : decide (((l.getD ((i : Int)).toNat null).s.length : Int) > k) = true := by rw [Int.toNat_natCast]; exact decide_eq_true hs
          have e : smallL l m k = false := by
            have : (l.all fun v => decide ((v.s.length : Int) ≤ k)) = false := by
              refine Bool.eq_false_iff.2 fun h => ?_
              have := of_decide_eq_true (List.all_eq_true.1 h _ (getD_mem hi))
              omega
            unfold smallL
            rw [this, Bool.and_false]
          rw [e]
          repeat' (refine BR.mk (fun h => ?_) (fun h => ?_) <;> first | with_reducible exact Bool.noConfusion h | with_reducible exact Bool.noConfusion (k2.symm.trans h) | with_reducible exact Bool.noConfusion (k3.symm.trans h) | skip)
          · exact ⟨⟨by omega, by omega⟩, rfl, rfl⟩
          · exact Fini.mk rfl
        · have k3 : decide (((l.getD ((i : Int)).toNat null).s.length : Int) > k) = false := by rw [Int.toNat_natCast]; exact decide_eq_false hs
          repeat' (refine BR.mk (fun h => ?_) (fun h => ?_) <;> first | with_reducible exact Bool.noConfusion h | with_reducible exact Bool.noConfusion (k2.symm.trans h) | with_reducible exact Bool.noConfusion (k3.symm.trans h) | skip)
          · exact ⟨⟨by omega, by omega⟩, rfl, rfl⟩
          · refine Again.fam (i + 1) ⟨hi, fun j hj => ?_⟩ (by show _ < _; omega) rfl rfl rfl rfl trivial ?_ trivial
            · by_cases e : j = i
              · subst e; omega
              · exact hi2 j (by omega)
            · repeat' (refine BR.mk (fun _ => ?_) (fun _ => ?_))
              any_goals first | exact trivial | exact Wv.any _ | (refine Wv.int ?_; with_reducible rfl) | (refine Wv.str ?_; with_reducible rfl) | (refine Wv.bool ?_; with_reducible rfl) | refine Wv.int ?_ | refine Wv.str ?_ | refine Wv.bool ?_ | exact Wv.same rfl
              rw [wrap_id (by unfold i64; omega)]; rfl
      · have k2 : decide ((i : Int) < (l.length : Int)) = false := decide_eq_false (by omega)
        have e : smallL l m k = true := by
          unfold smallL
          rw [decide_eq_true (by omega), Bool.true_and]
          refine List.all_eq_true.2 fun x hx => decide_eq_true ?_
          obtain ⟨j, hj, rfl⟩ := mem_getD hx
          exact hi2 j (by omega)
        rw [e]
        repeat' (refine BR.mk (fun h => ?_) (fun h => ?_) <;> first | with_reducible exact Bool.noConfusion h | with_reducible exact Bool.noConfusion (k2.symm.trans h) | skip)
        exact Fini.mk rfl
def h_small0 : List AV → CR
  | [.sl _ n f, .int .i64 m, .int .i64 k] => .need ((∀ i, i < n → isV (f i) = true) ∧ n ≤ 9223372036854775807) (.bool (smallL (lO n f) m k))
  | _ => .no
theorem h_small0_ok (xs : List AV) : CRok Tryz.prog GV 8 xs (h_small0 xs) := by
  unfold h_small0
  split
  · rename_i tag n f m k
    rintro ⟨hf, hn⟩
    refine pc_args ?_ (pc_small0 (lO n f) m k (by rw [lO_len]; exact hn))
    intro X vs h
    cases h with | cons h1 hs =>
    rw [lO_len]
    exact .cons (rep_slice (fun i hi => lO_get hf i hi) (rep_tag h1)) hs
  · trivial
noncomputable def ED8 : Env := ED7.add 8 h_small0
theorem ED8_ok : EnvOk Tryz.prog ED8 := Env.add_ok ED7_ok (by kernel_rfl) h_small0_ok
/-- are they right? -/
def rightL (l : List V) : Bool := smallL l 60 100 && l.all right
theorem pc_right0 (l : List V) (hl : l.length ≤ 9223372036854775807) : PC Tryz.prog GV 18 [.sl .no l.length (vF l)] (.bool (rightL l)) := by
  refine pc_fin ED8_ok mixed (show Tryz.prog.funcs[18]? = some Tryz.f18 from rfl) ?_
  by_cases hm : smallL l 60 100 = true
  · have k1 : (!smallL (lO l.length (vF l)) 60 100) = false := by rw [lO_vF, hm]; rfl
    repeat' (refine BR.mk (fun h => ?_) (fun h => ?_) <;> first | with_reducible exact Bool.noConfusion h | with_reducible exact Bool.noConfusion (k1.symm.trans h) | skip)
    · exact ⟨fun _ _ => rfl, hl⟩
    refine loop_fam ED8_ok mixed (σ := Nat) (fun i => i ≤ l.length ∧ ∀ j, j < i → right (l.getD j null) = true) (fun i => l.length - i) 0 ⟨Nat.zero_le _, fun j h => absurd h (Nat.not_lt_zero _)⟩ 0 0 [0] (fun i => [(3, .int .i64 i)]) [] (fun _ => []) (fun _ => []) ?_ ?_ ?_ ?_
    · rfl
    · rfl
    · refine Wk.mk' rfl rfl trivial ?_ trivial
      repeat' (refine BR.mk (fun _ => ?_) (fun _ => ?_))
      any_goals first | exact trivial | exact Wv.any _ | (refine Wv.int ?_; with_reducible rfl) | (refine Wv.str ?_; with_reducible rfl) | (refine Wv.bool ?_; with_reducible rfl) | refine Wv.int ?_ | refine Wv.str ?_ | refine Wv.bool ?_ | exact Wv.same rfl
      all_goals rfl
    · rintro i ⟨hi1, hi2⟩
      by_cases hi : i < l.length
      · have k2 : decide ((i : Int) < (l.length : Int)) = true := decide_eq_true (by omega)
        by_cases hs : right (l.getD i null) = true
        · have k3 : (!right (l.getD ((i : Int)).toNat null)) = false := by rw [Int.toNat_natCast, hs]; rfl
          repeat' (refine BR.mk (fun h => ?_) (fun h => ?_) <;> first | with_reducible exact Bool.noConfusion h | with_reducible exact Bool.noConfusion (k2.symm.trans h) | with_reducible exact Bool.noConfusion (k3.symm.trans h) | skip)
          · exact ⟨⟨by omega, by omega⟩, rfl, rfl⟩
          · refine Again.fam (i + 1) ⟨hi, fun j hj => ?_⟩ (by show _ < _; omega) rfl rfl rfl rfl trivial ?_ trivial
            · by_cases e : j = i
              · subst e; exact hs
              · exact hi2 j (by omega)
            · repeat' (refine BR.mk (fun _ => ?_) (fun _ => ?_))
              any_goals first | exact trivial | exact Wv.any _ | (refine Wv.int ?_; with_reducible rfl) | (refine Wv.str ?_; with_reducible rfl) | (refine Wv.bool ?_; with_reducible rfl) | refine Wv.int ?_ | refine Wv.str ?_ | refine Wv.bool ?_ | exact Wv.same rfl
              rw [wrap_id (by unfold i64; omega)]; rfl
        · have k3 : (!right (l.getD ((i : Int)).toNat null)) = true := by rw [Int.toNat_natCast]; simpa using hs
          have e : rightL l = false := by
            have : (l.all right) = false := Bool.eq_false_iff.2 fun h => hs (List.all_eq_true.1 h _ (getD_mem hi))
            unfold rightL
            rw [this, Bool.and_false]
          rw [e]
          repeat' (refine BR.mk (fun h => ?_) (fun h => ?_) <;> first | with_reducible exact Bool.noConfusion h | with_reducible exact Bool.noConfusion (k2.symm.trans h) | with_reducible exact Bool.noConfusion (k3.symm.trans h) | skip)
          · exact ⟨⟨by omega, by omega⟩, rfl, rfl⟩
          · exact Fini.mk rfl
      · have k2 : decide ((i : Int) < (l.length : Int)) = false := decide_eq_false (by omega)
        have e : rightL l = true := by
          unfold rightL
          rw [hm, Bool.true_and]
          refine List.all_eq_true.2 fun x hx => ?_
          obtain ⟨j, hj, rfl⟩ := mem_getD hx
          exact hi2 j (by omega)
        rw [e]
        repeat' (refine BR.mk (fun h => ?_) (fun h => ?_) <;> first | with_reducible exact Bool.noConfusion h | with_reducible exact Bool.noConfusion (k2.symm.trans h) | skip)
        exact Fini.mk rfl
  · have k1 : (!smallL (lO l.length (vF l)) 60 100) = true := by rw [lO_vF]; simpa using hm
    have e : rightL l = false := by unfold rightL; rw [Bool.eq_false_iff.2 hm]; rfl
    rw [e]
    repeat' (refine BR.mk (fun h => ?_) (fun h => ?_) <;> first | with_reducible exact Bool.noConfusion h | with_reducible exact Bool.noConfusion (k1.symm.trans h) | skip)
    · exact ⟨fun _ _ => rfl, hl⟩
    · exact Fini.mk rfl
noncomputable def h_right0 : List AV → CR
  | [.sl _ n f] => @CR.need ((∀ i, i < n → isV (f i) = true) ∧ n ≤ 9223372036854775807) (Classical.propDecidable _) (.bool (rightL (lO n f)))
  | _ => .no
theorem h_right0_ok (xs : List AV) : CRok Tryz.prog GV 18 xs (h_right0 xs) := by
  unfold h_right0
  split
  · rename_i tag n f
    rintro ⟨hf, hn⟩
    refine pc_args ?_ (pc_right0 (lO n f) (by rw [lO_len]; exact hn))
    intro X vs h
    cases h with | cons h1 hs =>
    rw [lO_len]
    exact .cons (rep_slice (fun i hi => lO_get hf i hi) (rep_tag h1)) hs
  · trivial
noncomputable def ED9 : Env := ED8.add 18 h_right0
theorem ED9_ok : EnvOk Tryz.prog ED9 := Env.add_ok ED8_ok (by kernel_rfl) h_right0_ok
noncomputable def h_names : List AV → CR
  | [] => .yes (.sl .tight 7 fun i => .str (names.getD i []))
  | _ => .no
noncomputable def EE1 : Env := ED9
theorem EE1_ok : EnvOk Tryz.prog EE1 := ED9_ok
noncomputable def h_awake8 : List AV → CR
  | [] => .yes (.bool true)
  | _ => .no
theorem h_awake8_ok (xs : List AV) : CRok Tryz.prog GV 9 xs (h_awake8 xs) := by
  unfold h_awake8
  split
  · exact pc_awake8
  · trivial
noncomputable def EE2 : Env := EE1.add 9 h_awake8
theorem EE2_ok : EnvOk Tryz.prog EE2 := Env.add_ok EE1_ok (by kernel_rfl) h_awake8_ok

end Go.Proofs.YtejepcnoflahkaaGreatDoor
