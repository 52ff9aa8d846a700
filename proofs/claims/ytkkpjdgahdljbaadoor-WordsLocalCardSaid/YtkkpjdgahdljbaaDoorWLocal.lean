/- WordsLocal: what is told at a place hangs on what stands from there on alone. -/
import Derived.Test.YtkkpjdgahdljbaaDoorWWalk8
namespace Go.Proofs.YtkkpjdgahdljbaaDoor
open Go Go.Ab Go.RowKit
set_option linter.unusedVariables false
set_option linter.unusedSimpArgs false
set_option maxRecDepth 100000
set_option maxHeartbeats 4000000

/-- one token, told from two places -/
structure Shift (X Y : WF) (k : Nat) : Prop where
  e : X.e = Y.e
  a : X.e = 0 ∨ X.a = Y.a + k
  wk : X.w.k = Y.w.k
  ws : X.w.s = Y.w.s
  wn : X.w.n = Y.w.n
  wa : X.e ≠ 0 ∨ X.w.a = Y.w.a + k
  we : X.e ≠ 0 ∨ X.w.e = Y.w.e + k
  b : (0 ≤ Y.a ∧ Y.a ≤ 200000) ∧ (0 ≤ Y.w.a ∧ Y.w.a ≤ 200000) ∧ (0 ≤ Y.w.e ∧ Y.w.e ≤ 200000)
theorem tok_shift (t : List UInt8) (k : Nat) (hl : t.length ≤ 65536) : Shift (tokS t k) (tokS t 0) k := by
  have h1 := skipN_le false t
  have h2 := found_le (t.drop (skipN false t))
  rw [List.length_drop] at h2
  unfold tokS
  split
  · exact ⟨rfl, .inl rfl, rfl, rfl, rfl, .inr (by simp only []; omega), .inr (by simp only []; omega), by simp only []; omega⟩
  · split
    · exact ⟨rfl, .inr (by simp only []; omega), rfl, rfl, rfl, .inl (by simp), .inl (by simp), by simp only [noW]; omega⟩
    · exact ⟨rfl, .inl rfl, rfl, rfl, rfl, .inr (by simp only []; omega), .inr (by simp only []; omega), by simp only []; omega⟩
theorem next_shift (s : List UInt8) (k : Nat) (hl : s.length ≤ 65536) (hk : k ≤ s.length) : Shift (nextS s k) (nextS (s.drop k) 0) k := by
  have e1 : nextS s k = tokS (s.drop k) k := by
    unfold nextS
    rw [if_neg (by omega), if_neg (by omega), Int.toNat_natCast]
  have e2 : nextS (s.drop k) 0 = tokS (s.drop k) 0 := by
    unfold nextS
    rw [if_neg (by rw [List.length_drop]; omega), if_neg (by omega)]
    rfl
  rw [e1, e2]
  exact tok_shift _ k (by rw [List.length_drop]; omega)
@[reducible] def lP (s : List UInt8) (a : Int) : Int := pickS a (IntKind.i64.wrap ((s.length : Int) + 1))
theorem lP_is (s : List UInt8) (a : Int) (hs : s.length ≤ 2000) : ∃ k : Nat, lP s a = k ∧ k ≤ s.length := by
  have e : IntKind.i64.wrap ((s.length : Int) + 1) = (s.length : Int) + 1 := wrap_id (by unfold i64; omega)
  have hm : -((s.length : Int) + 1) < a.tmod ((s.length : Int) + 1) ∧ a.tmod ((s.length : Int) + 1) < (s.length : Int) + 1 := ⟨Int.lt_tmod_of_pos a (by omega), Int.tmod_lt_of_pos a (by omega)⟩
  unfold lP pickS
  rw [e, if_neg (by omega)]
  split
  · exact ⟨(a.tmod ((s.length : Int) + 1) + ((s.length : Int) + 1)).toNat, by omega, by omega⟩
  · exact ⟨(a.tmod ((s.length : Int) + 1)).toNat, by omega, by omega⟩
section
set_option smartUnfolding false
theorem local_long (s : List UInt8) (a : Int) (hs : s.length > 2000) : PC Tryd.prog GW 9 [.str s, .int .i64 a] (.bool true) := by
  have k1 : decide ((s.length : Int) > 2000) = true := decide_eq_true (by omega)
  refine pc_fin EK_ok mixed (show Tryd.prog.funcs[9]? = some Tryd.f9 from rfl) ?_
  repeat' (refine BR.mk (fun h => ?_) (fun h => ?_) <;> try first | contradiction | with_reducible exact Bool.noConfusion (k1.symm.trans h))
  all_goals exact Fini.mk rfl
@[reducible] def lX (s : List UInt8) (a : Int) : WF := nextS s (lP s a)
@[reducible] def lY (s : List UInt8) (a : Int) : WF := nextS (List.drop (lP s a).toNat s) 0
theorem shift_of (s : List UInt8) (a : Int) (hs : s.length ≤ 2000) : ∃ k : Nat, lP s a = k ∧ k ≤ s.length ∧ Shift (lX s a) (lY s a) k := by
  obtain ⟨k, h1, h2⟩ := lP_is s a hs
  refine ⟨k, h1, h2, ?_⟩
  have := next_shift s k (by omega) h2
  show Shift (nextS s (lP s a)) (nextS (List.drop (lP s a).toNat s) 0) k
  rw [h1, Int.toNat_natCast]
  exact this
theorem wrapS {x : Int} {k : Nat} (h : 0 ≤ x ∧ x ≤ 200000) (hk : k ≤ 2000) : IntKind.i64.wrap (x + (k : Int)) = x + k := wrap_id (by unfold i64; omega)
theorem local_in (s : List UInt8) (a : Int) (hs : s.length ≤ 2000) (ha : i64 a) : PC Tryd.prog GW 9 [.str s, .int .i64 a] (.bool true) := by
  obtain ⟨k, hk, hkl, S⟩ := shift_of s a hs
  have k1 : decide ((s.length : Int) > 2000) = false := decide_eq_false (by omega)
  have ew : IntKind.i64.wrap ((s.length : Int) + 1) = (s.length : Int) + 1 := wrap_id (by unfold i64; omega)
  have z1 : i64 a ∧ 1 ≤ IntKind.i64.wrap ((s.length : Int) + 1) ∧ IntKind.i64.wrap ((s.length : Int) + 1) ≤ 4611686018427387904 := ⟨ha, by rw [ew]; omega, by rw [ew]; omega⟩
  have z2 : 0 ≤ lP s a ∧ lP s a ≤ (s.length : Int) := by rw [hk]; omega
  have f1 : ((lX s a).e != (lY s a).e) = false := by rw [S.e]; simp
  cases hx : ((lX s a).e != 0) with
  | true =>
    have hne : ¬ (lX s a).e = 0 := by simpa using hx
    have f2 : ((lX s a).a == IntKind.i64.wrap ((lY s a).a + lP s a)) = true := by
      rw [hk, wrapS S.b.1 (by omega), beq_iff_eq]
      exact S.a.resolve_left hne
    refine pc_fin EK_ok mixed (show Tryd.prog.funcs[9]? = some Tryd.f9 from rfl) ?_
    repeat' (refine BR.mk (fun h => ?_) (fun h => ?_) <;> try first | contradiction | with_reducible exact Bool.noConfusion (k1.symm.trans h) | with_reducible exact Bool.noConfusion (f1.symm.trans h) | with_reducible exact Bool.noConfusion (hx.symm.trans h) | with_reducible exact Bool.noConfusion (f2.symm.trans h))
    all_goals first | exact z1 | exact z2 | exact Fini.mk rfl
  | false =>
    have he : (lX s a).e = 0 := by simpa using hx
    have hn : ¬ (lX s a).e ≠ 0 := fun h => h he
    have f2 : ((lX s a).w.k == (lY s a).w.k) = true := by rw [S.wk]; exact beq_self_eq_true _
    have f3 : ((lX s a).w.s == (lY s a).w.s) = true := by rw [S.ws]; exact beq_self_eq_true _
    have f4 : ((lX s a).w.n == (lY s a).w.n) = true := by rw [S.wn]; exact beq_self_eq_true _
    have f5 : ((lX s a).w.a == IntKind.i64.wrap ((lY s a).w.a + lP s a)) = true := by
      rw [hk, wrapS S.b.2.1 (by omega), beq_iff_eq]
      exact S.wa.resolve_left hn
    have f6 : ((lX s a).w.e == IntKind.i64.wrap ((lY s a).w.e + lP s a)) = true := by
      rw [hk, wrapS S.b.2.2 (by omega), beq_iff_eq]
      exact S.we.resolve_left hn
    refine pc_fin EK_ok mixed (show Tryd.prog.funcs[9]? = some Tryd.f9 from rfl) ?_
    repeat' (refine BR.mk (fun h => ?_) (fun h => ?_) <;> try first | contradiction | with_reducible exact Bool.noConfusion (k1.symm.trans h) | with_reducible exact Bool.noConfusion (f1.symm.trans h) | with_reducible exact Bool.noConfusion (hx.symm.trans h) | with_reducible exact Bool.noConfusion (f2.symm.trans h) | with_reducible exact Bool.noConfusion (f3.symm.trans h) | with_reducible exact Bool.noConfusion (f4.symm.trans h) | with_reducible exact Bool.noConfusion (f5.symm.trans h) | with_reducible exact Bool.noConfusion (f6.symm.trans h))
    all_goals first | exact z1 | exact z2 | exact Fini.mk rfl
end
theorem pc_localLaw (s : List UInt8) (a : Int) (_ : s.length ≤ 9223372036854775807) (ha : i64 a) : PC Tryd.prog GW 9 [.str s, .int .i64 a] (.bool true) := by
  by_cases hs : s.length > 2000
  · exact local_long s a hs
  · exact local_in s a (by omega) ha
end Go.Proofs.YtkkpjdgahdljbaaDoor
