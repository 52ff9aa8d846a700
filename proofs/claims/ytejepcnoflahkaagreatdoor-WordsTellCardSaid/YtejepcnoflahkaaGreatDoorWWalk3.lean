/- words: quoted. -/
import Derived.Test.YtejepcnoflahkaaGreatDoorWWalk2
import Derived.Lib.IndexLaws
namespace Go.Proofs.YtejepcnoflahkaaGreatDoor
open Go Go.Ab
set_option linter.unusedVariables false
set_option linter.unusedSimpArgs false
set_option maxRecDepth 100000
set_option maxHeartbeats 4000000

def EW6a : Env := EW5.addH 108 hl_wb
theorem EW6a_ok : EnvOk Tryz.prog EW6a := Env.addH_ok EW5_ok (by kernel_rfl) (hl_wb_ok GV GV_s)
def EW6 : Env := EW6a.addH 76 hl_ws
theorem EW6_ok : EnvOk Tryz.prog EW6 := Env.addH_ok EW6a_ok (by kernel_rfl) (hl_ws_ok GV GV_s)

theorem ix_hit (c : UInt8) (l : List UInt8) : Lib.indexByte (c :: l) c = 0 := by
  rw [Lib.indexByte, if_pos (by simp)]
theorem ix_miss {b c : UInt8} (l : List UInt8) (h : ¬ b = c) : Lib.indexByte (b :: l) c = if Lib.indexByte l c == -1 then -1 else Lib.indexByte l c + 1 := by
  rw [Lib.indexByte, if_neg (by simpa using h)]
theorem quo_none : ∀ {u : List UInt8}, Lib.indexByte u 39 < 0 → quoS u = none
  | [], _ => rfl
  | b :: l, h => by
    have hb : ¬ b = 39 := by
      rintro rfl
      rw [ix_hit] at h; omega
    have hb' : (b == 39) = false := by simpa using hb
    rw [ix_miss l hb] at h
    have hg := Lib.indexByte_ge l 39
    have ih := @quo_none l (by
      split at h
      · rename_i e; have := eq_of_beq e; omega
      · omega)
    rw [quoS.eq_def]
    simp only [hb', ih]
    rfl
theorem quo_at : ∀ {u : List UInt8} {k : Nat}, Lib.indexByte u 39 = k → k < u.length ∧ quoS u = if Lib.hasPrefix (u.drop (k + 1)) [39] then more (u.take k ++ [39]) (k + 2) (quoS (u.drop (k + 2))) else some (u.take k, k + 1)
  | [], k, h => by exfalso; have : (-1 : Int) = k := h; omega
  | b :: l, k, h => by
    by_cases hb : b = 39
    · subst hb
      rw [ix_hit] at h
      have : k = 0 := by omega
      subst this
      refine ⟨by simp, ?_⟩
      cases l with
      | nil => rfl
      | cons c l =>
        by_cases hc : c = 39
        · subst hc
          have e1 : Lib.hasPrefix (List.drop (0 + 1) (39 :: 39 :: l)) [39] = true := rfl
          have e2 : quoS (39 :: 39 :: l) = (quoS l).map fun x => (39 :: x.1, x.2 + 2) := rfl
          rw [e1, if_pos rfl, e2]
          show _ = more [39] 2 (quoS l)
          cases quoS l <;> rfl
        · have hc' : (c == 39) = false := by simpa using hc
          have hc2 : ((39 : UInt8) == c) = false := by simpa using Ne.symm hc
          have e1 : Lib.hasPrefix (List.drop (0 + 1) (39 :: c :: l)) [39] = false := by
            simp [Lib.hasPrefix, List.isPrefixOf, hc2]
          rw [e1, if_neg (by decide)]
          simp only [quoS, hc']
          rfl
    · have hb' : (b == 39) = false := by simpa using hb
      have hg := Lib.indexByte_ge l 39
      rw [ix_miss l hb] at h
      have hk : ∃ j : Nat, k = j + 1 ∧ Lib.indexByte l 39 = j := by
        split at h
        · omega
        · rename_i e
          have : ¬ Lib.indexByte l 39 = -1 := fun e' => e (by rw [e']; rfl)
          exact ⟨(Lib.indexByte l 39).toNat, by omega, by omega⟩
      obtain ⟨j, rfl, hj⟩ := hk
      obtain ⟨h1, h2⟩ := quo_at hj
      refine ⟨by simpa using h1, ?_⟩
      have e2 : quoS (b :: l) = (quoS l).map fun x => (b :: x.1, x.2 + 1) := by rw [quoS.eq_def]; simp only [hb']
      rw [e2, h2]
      simp only [List.drop_succ_cons, List.take_succ_cons]
      split
      · cases quoS (l.drop (j + 2)) <;> rfl
      · rfl
theorem isB (x : UInt8) : isByte (.int .u8 (x.toNat : Int)) := by
  have := x.toNat_lt
  exact ⟨by omega, by omega⟩
theorem wv_byte' {mv : List (Nat × Nat)} {s s' : St} {x y : AV} (h : isByte y) (e : x = y) : WvL mv s s' x.cells y.cells := wv_byte (by rw [e]; exact h) e
def quoB : Option (List UInt8) → List (Nat × Blk)
  | none => [(0, .tcells 96 [.nilp, .sl .nil 0 fun _ => .any])]
  | some o => [(0, .tcells 96 [.ptr 0 0, .hs 1 0 o.length 1 none]), (1, .arr 5 1 o.length (strF o))]
set_option smartUnfolding false in
theorem pc_quoted (s : List UInt8) (h1 : 1 ≤ s.length) (hn : s.length ≤ 65536) : PC Tryz.prog GV 142 [.str s] (pairR (quoS (s.drop 1)) 1) := by
  refine pc_fin EW6_ok mixed (show Tryz.prog.funcs[142]? = some Tryz.f142 from rfl) ?_
  refine loop_famM EW6_ok mixed (σ := Nat × Option (List UInt8)) (fun p => 1 ≤ p.1 ∧ p.1 ≤ s.length ∧ (p.2.getD []).length ≤ p.1 ∧ quoS (s.drop 1) = more (p.2.getD []) (p.1 - 1) (quoS (s.drop p.1))) (fun p => s.length + 1 - p.1) (1, none) ⟨Nat.le_refl _, h1, by simp, (more_nil _).symm⟩ 1 2 0 [] [0, 2, 3, 4] (fun p => [(5, .int .i64 p.1)]) [] (fun p => quoB p.2) (fun _ => []) ?_ ?_ ?_ ?_ ?_ ?_
  · rfl
  · rfl
  · rfl
  · rfl
  · refine Wk.mk' rfl rfl trivial ?_ (BR.mk (fun _ => ⟨Nat.le_of_ble_eq_true rfl, .inl ⟨rfl, _, rfl, rfl, .cons (.same rfl) (.cons (.same rfl) .nil)⟩⟩) (fun _ => trivial))
    repeat' (refine BR.mk (fun _ => ?_) (fun _ => ?_))
    any_goals first | exact trivial | exact Wv.any _ | (refine Wv.int ?_; with_reducible rfl) | (refine Wv.str ?_; with_reducible rfl) | (refine Wv.bool ?_; with_reducible rfl) | refine Wv.int ?_ | refine Wv.str ?_ | refine Wv.bool ?_ | exact Wv.same rfl
    all_goals rfl
  · rintro ⟨i, o⟩ ⟨h2, hi, ho, hf⟩
    simp only at h2 hi ho hf
    have hg := Lib.indexByte_ge (s.drop i) 39
    by_cases hk0 : Lib.indexByte (s.drop i) 39 < 0
    · have hq := quo_none hk0
      rw [hq] at hf
      cases o <;>
      · repeat' (refine BR.mk (fun h => ?_) (fun h => ?_) <;> try first | contradiction | exact absurd hk0 (of_decide_eq_false h))
        all_goals try exact ⟨by show (0 : Int) ≤ i; omega, by show (i : Int) ≤ s.length; omega⟩
        all_goals (refine Fini.mk (pairE ?_ ?_) <;> rw [hf] <;> rfl)
    · obtain ⟨k, hk⟩ : ∃ k : Nat, Lib.indexByte (s.drop i) 39 = k := ⟨(Lib.indexByte (s.drop i) 39).toNat, by omega⟩
      obtain ⟨hkl, hq⟩ := quo_at hk
      rw [List.length_drop] at hkl
      rw [List.drop_drop, List.drop_drop] at hq
      have w1 : IntKind.i64.wrap ((i : Int) + Lib.indexByte (s.drop i) 39) = ((i + k : Nat) : Int) := by rw [hk]; exact (wrap_id (by unfold i64; omega)).trans (by omega)
      have w2 : IntKind.i64.wrap (Lib.indexByte (s.drop i) 39 + 1) = ((k + 1 : Nat) : Int) := by rw [hk]; exact (wrap_id (by unfold i64; omega)).trans (by omega)
      have w3 : IntKind.i64.wrap ((i : Int) + IntKind.i64.wrap (Lib.indexByte (s.drop i) 39 + 1)) = ((i + (k + 1) : Nat) : Int) := by rw [w2]; exact (wrap_id (by unfold i64; omega)).trans (by omega)
      have eT : List.take ((IntKind.i64.wrap ((i : Int) + Lib.indexByte (s.drop i) 39)).toNat - (i : Int).toNat) (List.drop (i : Int).toNat s) = (s.drop i).take k := by
        rw [w1, Int.toNat_natCast, Int.toNat_natCast, Nat.add_sub_cancel_left]
      have lT : (List.take ((IntKind.i64.wrap ((i : Int) + Lib.indexByte (s.drop i) 39)).toNat - (i : Int).toNat) (List.drop (i : Int).toNat s)).length = k := by rw [eT]; simp; omega
      have b1 : (0 : Int) ≤ (i : Int) ∧ (i : Int) ≤ (s.length : Int) := ⟨by omega, by omega⟩
      have b2 : ((0 : Int) ≤ IntKind.i64.wrap ((i : Int) + Lib.indexByte (s.drop i) 39) ∧ IntKind.i64.wrap ((i : Int) + Lib.indexByte (s.drop i) 39) ≤ (s.length : Int)) ∧ ((0 : Int) ≤ (i : Int) ∧ (i : Int) ≤ IntKind.i64.wrap ((i : Int) + Lib.indexByte (s.drop i) 39)) := by rw [w1]; omega
      have b4 : (0 : Int) ≤ IntKind.i64.wrap ((i : Int) + IntKind.i64.wrap (Lib.indexByte (s.drop i) 39 + 1)) ∧ IntKind.i64.wrap ((i : Int) + IntKind.i64.wrap (Lib.indexByte (s.drop i) 39 + 1)) ≤ (s.length : Int) := by rw [w3]; omega
      have hP : Lib.hasPrefix (List.drop (IntKind.i64.wrap ((i : Int) + IntKind.i64.wrap (Lib.indexByte (s.drop i) 39 + 1))).toNat s) [39] = Lib.hasPrefix (s.drop (i + (k + 1))) [39] := by rw [w3, Int.toNat_natCast]
      have hlt : Lib.hasPrefix (s.drop (i + (k + 1))) [39] = true → i + (k + 1) < s.length := fun hh => by
        have := hasPrefix_len hh
        rw [List.length_drop] at this
        simp only [List.length_cons, List.length_nil] at this
        omega
      cases hb : Lib.hasPrefix (s.drop (i + (k + 1))) [39] with
      | false =>
        rw [hb] at hP
        rw [hb, if_neg (by decide)] at hq
        cases o with
        | none =>
          repeat' (refine BR.mk (fun h => ?_) (fun h => ?_) <;> try first | contradiction | exact absurd (of_decide_eq_true h) hk0 | exact Bool.noConfusion ((congrArg (!·) hP).symm.trans h))
          · exact b1
          · exact b2
          · exact ⟨rfl, Nat.le_trans (Nat.le_of_eq lT) (by omega)⟩
          · exact b4
          · exact ⟨rfl, rfl, rfl, rfl, Nat.le_refl _, Nat.le_trans (Nat.le_of_eq lT) (by omega), fun j hj => isB _⟩
          · refine Fini.mk (pairE ?_ ?_)
            · refine (txtA_eq (l := (s.drop i).take k) (lT.trans (by simp; omega)) (fun j _ => congrArg (fun t => strF t j) eT)).trans ?_
              rw [hf, hq]; rfl
            · refine w3.trans ?_
              rw [hf, hq]
              show ((i + (k + 1) : Nat) : Int) = ((k + 1 + (i - 1) + 1 : Nat) : Int)
              omega
        | some o =>
          have ho : o.length ≤ i := ho
          repeat' (refine BR.mk (fun h => ?_) (fun h => ?_) <;> try first | contradiction | exact absurd (of_decide_eq_true h) hk0 | exact Bool.noConfusion ((congrArg (!·) hP).symm.trans h))
          · exact b1
          · exact b2
          · exact ⟨rfl, (show o.length + (List.take ((IntKind.i64.wrap ((i : Int) + Lib.indexByte (s.drop i) 39)).toNat - (i : Int).toNat) (List.drop (i : Int).toNat s)).length ≤ 140737488355328 by rw [lT]; omega), fun j hj => isB _⟩
          · exact b4
          · exact ⟨rfl, rfl, rfl, rfl, Nat.le_refl _, (show o.length + (List.take ((IntKind.i64.wrap ((i : Int) + Lib.indexByte (s.drop i) 39)).toNat - (i : Int).toNat) (List.drop (i : Int).toNat s)).length ≤ 9223372036854775807 by rw [lT]; omega), fun j hj => isB _⟩
          · refine Fini.mk (pairE ?_ ?_)
            · refine (txtA_eq (n := o.length + (List.take ((IntKind.i64.wrap ((i : Int) + Lib.indexByte (s.drop i) 39)).toNat - (i : Int).toNat) (List.drop (i : Int).toNat s)).length) (l := o ++ (s.drop i).take k) (by rw [lT]; simp; omega) (fun j _ => congrArg (fun t => strF t j) (show txtA o.length (strF o) ++ (List.take ((IntKind.i64.wrap ((i : Int) + Lib.indexByte (s.drop i) 39)).toNat - (i : Int).toNat) (List.drop (i : Int).toNat s)) = _ by rw [eT, txtA_str]))).trans ?_
              rw [hf, hq]; rfl
            · refine w3.trans ?_
              rw [hf, hq]
              show ((i + (k + 1) : Nat) : Int) = ((k + 1 + (i - 1) + 1 : Nat) : Int)
              omega
      | true =>
        have hlt := hlt hb
        rw [hb] at hP
        rw [hb, if_pos rfl] at hq
        cases o with
        | none =>
          repeat' (refine BR.mk (fun h => ?_) (fun h => ?_) <;> try first | contradiction | exact absurd (of_decide_eq_true h) hk0 | exact Bool.noConfusion ((congrArg (!·) hP).symm.trans h))
          · exact b1
          · exact b2
          · exact ⟨rfl, Nat.le_trans (Nat.le_of_eq lT) (by omega)⟩
          · exact b4
          · exact ⟨rfl, (show (List.take ((IntKind.i64.wrap ((i : Int) + Lib.indexByte (s.drop i) 39)).toNat - (i : Int).toNat) (List.drop (i : Int).toNat s)).length + 1 ≤ 140737488355328 by rw [lT]; omega), by decide, fun j hj => isB _⟩
          · have eo : txtA (List.take ((IntKind.i64.wrap ((i : Int) + Lib.indexByte (s.drop i) 39)).toNat - (i : Int).toNat) (List.drop (i : Int).toNat s)).length (strF (List.take ((IntKind.i64.wrap ((i : Int) + Lib.indexByte (s.drop i) 39)).toNat - (i : Int).toNat) (List.drop (i : Int).toNat s))) ++ [39] = (s.drop i).take k ++ [39] := by rw [txtA_str, eT]
            have ln : (List.take ((IntKind.i64.wrap ((i : Int) + Lib.indexByte (s.drop i) 39)).toNat - (i : Int).toNat) (List.drop (i : Int).toNat s)).length + 1 = ((s.drop i).take k ++ [39]).length := by rw [lT]; simp; omega
            refine Again.famM (i + (k + 2), some ((s.drop i).take k ++ [39])) [(1, 3)] ⟨by simp only; omega, by simp only; omega, by simp only [Option.getD_some]; rw [← ln, lT]; omega, ?_⟩ (by simp only; omega) rfl rfl rfl rfl trivial ?_ ?_
            · simp only [Option.getD_some]
              rw [hf, hq, more_more]
              congr 1
              omega
            · repeat' (refine BR.mk (fun _ => ?_) (fun _ => ?_))
              any_goals first | exact trivial | exact Wv.any _ | (refine Wv.int ?_; with_reducible rfl) | (refine Wv.str ?_; with_reducible rfl) | (refine Wv.bool ?_; with_reducible rfl) | refine Wv.int ?_ | refine Wv.str ?_ | refine Wv.bool ?_ | exact Wv.same rfl
              show IntKind.i64.wrap (IntKind.i64.wrap ((i : Int) + IntKind.i64.wrap (Lib.indexByte (s.drop i) 39 + 1)) + 1) = ((i + (k + 2) : Nat) : Int)
              rw [w3]
              exact (wrap_id (by unfold i64; omega)).trans (by omega)
            · refine BR.mk (fun _ => ?_) (fun _ => BR.mk (fun _ => ?_) fun _ => trivial)
              · exact ⟨Nat.le_of_ble_eq_true rfl, .inl ⟨rfl, _, rfl, rfl, .cons (.same rfl) (.cons (.moved rfl rfl rfl ln) .nil)⟩⟩
              · exact ⟨Nat.le_of_ble_eq_true rfl, .inl ⟨rfl, _, rfl, rfl, rfl, Nat.le_of_eq ln.symm, fun j hj => wv_byte' (isB _) (congrArg (fun t => strF t j) eo)⟩⟩
        | some o =>
          have ho : o.length ≤ i := ho
          repeat' (refine BR.mk (fun h => ?_) (fun h => ?_) <;> try first | contradiction | exact absurd (of_decide_eq_true h) hk0 | exact Bool.noConfusion ((congrArg (!·) hP).symm.trans h))
          · exact b1
          · exact b2
          · exact ⟨rfl, (show o.length + (List.take ((IntKind.i64.wrap ((i : Int) + Lib.indexByte (s.drop i) 39)).toNat - (i : Int).toNat) (List.drop (i : Int).toNat s)).length ≤ 140737488355328 by rw [lT]; omega), fun j hj => isB _⟩
          · exact b4
          · exact ⟨rfl, (show o.length + (List.take ((IntKind.i64.wrap ((i : Int) + Lib.indexByte (s.drop i) 39)).toNat - (i : Int).toNat) (List.drop (i : Int).toNat s)).length + 1 ≤ 140737488355328 by rw [lT]; omega), by decide, fun j hj => isB _⟩
          · have eo : txtA (o.length + (List.take ((IntKind.i64.wrap ((i : Int) + Lib.indexByte (s.drop i) 39)).toNat - (i : Int).toNat) (List.drop (i : Int).toNat s)).length) (strF (txtA o.length (strF o) ++ (List.take ((IntKind.i64.wrap ((i : Int) + Lib.indexByte (s.drop i) 39)).toNat - (i : Int).toNat) (List.drop (i : Int).toNat s)))) ++ [39] = o ++ ((s.drop i).take k ++ [39]) := by
              rw [← List.append_assoc]
              congr 1
              exact txtA_eq (by rw [lT]; simp; omega) (fun j _ => congrArg (fun t => strF t j) (by rw [eT, txtA_str]))
            have ln : o.length + (List.take ((IntKind.i64.wrap ((i : Int) + Lib.indexByte (s.drop i) 39)).toNat - (i : Int).toNat) (List.drop (i : Int).toNat s)).length + 1 = (o ++ ((s.drop i).take k ++ [39])).length := by rw [lT]; simp; omega
            refine Again.famM (i + (k + 2), some (o ++ ((s.drop i).take k ++ [39]))) [(1, 3)] ⟨by simp only; omega, by simp only; omega, by simp only [Option.getD_some]; rw [← ln, lT]; omega, ?_⟩ (by simp only; omega) rfl rfl rfl rfl trivial ?_ ?_
            · simp only [Option.getD_some]
              rw [hf, hq, Option.getD_some, more_more]
              congr 1
              omega
            · repeat' (refine BR.mk (fun _ => ?_) (fun _ => ?_))
              any_goals first | exact trivial | exact Wv.any _ | (refine Wv.int ?_; with_reducible rfl) | (refine Wv.str ?_; with_reducible rfl) | (refine Wv.bool ?_; with_reducible rfl) | refine Wv.int ?_ | refine Wv.str ?_ | refine Wv.bool ?_ | exact Wv.same rfl
              show IntKind.i64.wrap (IntKind.i64.wrap ((i : Int) + IntKind.i64.wrap (Lib.indexByte (s.drop i) 39 + 1)) + 1) = ((i + (k + 2) : Nat) : Int)
              rw [w3]
              exact (wrap_id (by unfold i64; omega)).trans (by omega)
            · refine BR.mk (fun _ => ?_) (fun _ => BR.mk (fun _ => ?_) fun _ => trivial)
              · exact ⟨Nat.le_of_ble_eq_true rfl, .inl ⟨rfl, _, rfl, rfl, .cons (.same rfl) (.cons (.moved rfl rfl rfl ln) .nil)⟩⟩
              · exact ⟨Nat.le_of_ble_eq_true rfl, .inl ⟨rfl, _, rfl, rfl, rfl, Nat.le_of_eq ln.symm, fun j hj => wv_byte' (isB _) (congrArg (fun t => strF t j) eo)⟩⟩
def h_quo : List AV → CR
  | [.str s] => .need (1 ≤ s.length ∧ s.length ≤ 65536) (pairR (quoS (s.drop 1)) 1)
  | _ => .no
theorem h_quo_ok (xs : List AV) : CRok Tryz.prog GV 142 xs (h_quo xs) := by
  unfold h_quo
  split
  · rename_i s
    exact fun hn => pc_quoted s hn.1 hn.2
  · trivial
def EW7 : Env := EW6.add 142 h_quo
theorem EW7_ok : EnvOk Tryz.prog EW7 := Env.add_ok EW6_ok (by kernel_rfl) h_quo_ok
end Go.Proofs.YtejepcnoflahkaaGreatDoor
