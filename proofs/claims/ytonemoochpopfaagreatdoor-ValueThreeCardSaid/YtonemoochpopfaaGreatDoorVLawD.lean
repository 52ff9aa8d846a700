/- ValueThree: the walk. WRITTEN BY A SMALL PROGRAM of this session (laws.py). -/
import Derived.Test.YtonemoochpopfaaGreatDoorVLawC
namespace Go.Proofs.YtonemoochpopfaaGreatDoor
open Go Go.Ab
set_option linter.unusedVariables false
set_option linter.unusedSimpArgs false
set_option maxRecDepth 100000
set_option maxHeartbeats 8000000

/-- three-valued: none is NULL -/
def tri (v : V) : Option Bool := if v.k = 0 then none else some (truV v)
@[irreducible] def kk (x : Option Bool) : Int := match x with | none => 0 | some _ => 1
@[irreducible] def nn (x : Option Bool) : Int := match x with | some true => 1 | _ => 0
def K (x : Option Bool) : V := ⟨kk x, nn x, []⟩
@[irreducible] def and3 (x y : Option Bool) : Option Bool := match x, y with
  | some false, _ => some false
  | _, some false => some false
  | some true, some true => some true
  | _, _ => none
@[irreducible] def or3 (x y : Option Bool) : Option Bool := match x, y with
  | some true, _ => some true
  | _, some true => some true
  | some false, some false => some false
  | _, _ => none
@[irreducible] def not3 (x : Option Bool) : Option Bool := match x with
  | none => none
  | some b => some (!b)
theorem tri_num (n : Int) : tri ⟨1, n, []⟩ = some (n != 0) := by
  have h : truV ⟨1, n, []⟩ = (n != 0) := by unfold truV; rw [intV_num]; rfl
  unfold tri
  rw [h]
  rfl
theorem tri_K (x : Option Bool) : tri ⟨kk x, nn x, []⟩ = x := by
  unfold kk nn
  match x with
  | none => rfl
  | some true => exact tri_num 1
  | some false => exact tri_num 0
theorem right_K (x : Option Bool) : right ⟨kk x, nn x, []⟩ = true := by
  unfold kk nn
  match x with
  | none => unfold right; rfl
  | some true => exact right_num 1
  | some false => exact right_num 0
theorem op_and {a b : V} (ha : right a = true) (hb : right b = true) {x y : Option Bool} (hx : tri a = x) (hy : tri b = y) : opR [97, 110, 100] a b = ⟨⟨kk (and3 x y), nn (and3 x y), []⟩, 0⟩ := by
  subst hx hy
  unfold opR
  rw [ha, hb]
  simp only [known, signs]
  simp
  unfold threeR tri and3 kk nn boolR
  cases truV a <;> cases truV b <;> by_cases h1 : a.k = 0 <;> by_cases h2 : b.k = 0 <;> simp [h1, h2, null, numV]
theorem op_or {a b : V} (ha : right a = true) (hb : right b = true) {x y : Option Bool} (hx : tri a = x) (hy : tri b = y) : opR [111, 114] a b = ⟨⟨kk (or3 x y), nn (or3 x y), []⟩, 0⟩ := by
  subst hx hy
  unfold opR
  rw [ha, hb]
  simp only [known, signs]
  simp
  unfold threeR tri or3 kk nn boolR
  cases truV a <;> cases truV b <;> by_cases h1 : a.k = 0 <;> by_cases h2 : b.k = 0 <;> simp [h1, h2, null, numV]
theorem one_tri {a : V} (ha : right a = true) {x : Option Bool} (hx : tri a = x) : oneR [110, 111, 116] a = ⟨⟨kk (not3 x), nn (not3 x), []⟩, 0⟩ := by
  subst hx
  have hr := right_cases ha
  unfold oneR
  rw [ha]
  simp
  unfold tri not3 kk nn boolR
  by_cases h1 : a.k = 0
  · obtain ⟨k, n, s⟩ := a
    simp only at h1 hr
    subst h1
    rcases hr with h | h | h | h <;> simp at h
    simp [h.1, h.2]
  · simp only [h1, if_false]
    cases truV a <;> simp [numV]
theorem tri_truth {ak an : Int} {az : List UInt8} {x : Option Bool} (hx : tri ⟨ak, an, az⟩ = x) (h : ¬ ak = 0) : truV ⟨ak, an, az⟩ = (kk (not3 x) == 1 && nn (not3 x) == 0) := by
  subst hx
  unfold tri
  simp only [h, if_false]
  unfold not3 kk nn
  cases truV ⟨ak, an, az⟩ <;> rfl
theorem tri_null {ak an : Int} {az : List UInt8} {x : Option Bool} (hx : tri ⟨ak, an, az⟩ = x) : (kk (not3 x) == 0) = (ak == 0) := by
  subst hx
  unfold tri not3 kk
  by_cases h : ak = 0 <;> simp [h]
theorem and3_comm (x y : Option Bool) : and3 x y = and3 y x := by unfold and3; rcases x with _ | _ | _ <;> rcases y with _ | _ | _ <;> rfl
theorem or3_comm (x y : Option Bool) : or3 x y = or3 y x := by unfold or3; rcases x with _ | _ | _ <;> rcases y with _ | _ | _ <;> rfl
theorem and3_assoc (x y z : Option Bool) : and3 (and3 x y) z = and3 x (and3 y z) := by unfold and3; rcases x with _ | _ | _ <;> rcases y with _ | _ | _ <;> rcases z with _ | _ | _ <;> rfl
theorem or3_assoc (x y z : Option Bool) : or3 (or3 x y) z = or3 x (or3 y z) := by unfold or3; rcases x with _ | _ | _ <;> rcases y with _ | _ | _ <;> rcases z with _ | _ | _ <;> rfl
theorem and3_or (x y z : Option Bool) : and3 x (or3 y z) = or3 (and3 x y) (and3 x z) := by unfold and3 or3; rcases x with _ | _ | _ <;> rcases y with _ | _ | _ <;> rcases z with _ | _ | _ <;> rfl
theorem or3_and (x y z : Option Bool) : or3 x (and3 y z) = and3 (or3 x y) (or3 x z) := by unfold and3 or3; rcases x with _ | _ | _ <;> rcases y with _ | _ | _ <;> rcases z with _ | _ | _ <;> rfl
theorem not3_and (x y : Option Bool) : not3 (and3 x y) = or3 (not3 x) (not3 y) := by unfold and3 or3 not3; rcases x with _ | _ | _ <;> rcases y with _ | _ | _ <;> rfl
theorem not3_or (x y : Option Bool) : not3 (or3 x y) = and3 (not3 x) (not3 y) := by unfold and3 or3 not3; rcases x with _ | _ | _ <;> rcases y with _ | _ | _ <;> rfl
theorem not3_not (x : Option Bool) : not3 (not3 x) = x := by unfold not3; rcases x with _ | _ | _ <;> rfl
theorem and3_self (x : Option Bool) : and3 x x = x := by unfold and3; rcases x with _ | _ | _ <;> rfl
theorem or3_self (x : Option Bool) : or3 x x = x := by unfold or3; rcases x with _ | _ | _ <;> rfl
theorem and3_abs (x y : Option Bool) : and3 x (or3 x y) = x := by unfold and3 or3; rcases x with _ | _ | _ <;> rcases y with _ | _ | _ <;> rfl
theorem or3_abs (x y : Option Bool) : or3 x (and3 x y) = x := by unfold and3 or3; rcases x with _ | _ | _ <;> rcases y with _ | _ | _ <;> rfl
theorem i64_nn (x : Option Bool) : i64 (nn x) := by
  unfold nn
  split
  · decide
  · decide
theorem three_not (a b c : V) (h : (okR a && (okR b && (okR c && true))) = false) : PC Tryz.prog GV 4 [encV a, encV b, encV c] (.bool true) := by
  refine pc_fin E10_ok mixed (show Tryz.prog.funcs[4]? = some Tryz.f4 from rfl) ?_
  refine BR.mk (fun _ => va_3 rfl rfl rfl) (fun _ => ?_)
  refine BR.mk (fun h' => ?_) (fun h' => ?_)
  · exact Fini.mk rfl
  · exfalso
    have h2 : (!(okR a && (okR b && (okR c && true)))) = false := h'
    rw [h] at h2
    cases h2

theorem three_core (x y z : Option Bool) (ak an bk bn ck cn : Int) (az bz cz : List UInt8) (ha : okV ⟨ak, an, az⟩) (hb : okV ⟨bk, bn, bz⟩) (hc : okV ⟨ck, cn, cz⟩) (hr : (okR ⟨ak, an, az⟩ && (okR ⟨bk, bn, bz⟩ && (okR ⟨ck, cn, cz⟩ && true))) = true) (hx : tri ⟨ak, an, az⟩ = x) (hy : tri ⟨bk, bn, bz⟩ = y) (hz : tri ⟨ck, cn, cz⟩ = z) : PC Tryz.prog GV 4 [.agg [.int .u8 ak, .int .i64 an, .str az], .agg [.int .u8 bk, .int .i64 bn, .str bz], .agg [.int .u8 ck, .int .i64 cn, .str cz]] (.bool true) := by
  refine pc_fin E10_ok mixed (show Tryz.prog.funcs[4]? = some Tryz.f4 from rfl) ?_
  refine BR.mk (fun _ => va_3 rfl rfl rfl) (fun _ => ?_)
  refine BR.mk (fun h' => ?_) (fun h' => ?_)
  · exfalso
    have h2 : (!(okR ⟨ak, an, az⟩ && (okR ⟨bk, bn, bz⟩ && (okR ⟨ck, cn, cz⟩ && true)))) = true := h'
    rw [hr] at h2
    cases h2
  clear h'
  simp only [Bool.and_eq_true] at hr
  have ra := okR_right hr.1
  have rb := okR_right hr.2.1
  have rc := okR_right hr.2.2.1
  have w1 : IntKind.i64.wrap 1 = 1 := by decide
  have w2 : IntKind.i64.wrap 2 = 2 := by decide
  have f0 : opR [97, 110, 100] ⟨ak, an, az⟩ ⟨ak, an, az⟩ = ⟨⟨kk (and3 x x), nn (and3 x x), []⟩, 0⟩ := op_and ra ra hx hx
  have f1 : opR [97, 110, 100] ⟨ak, an, az⟩ ⟨bk, bn, bz⟩ = ⟨⟨kk (and3 x y), nn (and3 x y), []⟩, 0⟩ := op_and ra rb hx hy
  have f2 : opR [97, 110, 100] ⟨ak, an, az⟩ ⟨ck, cn, cz⟩ = ⟨⟨kk (and3 x z), nn (and3 x z), []⟩, 0⟩ := op_and ra rc hx hz
  have f3 : opR [97, 110, 100] ⟨bk, bn, bz⟩ ⟨ak, an, az⟩ = ⟨⟨kk (and3 y x), nn (and3 y x), []⟩, 0⟩ := op_and rb ra hy hx
  have f4 : opR [97, 110, 100] ⟨bk, bn, bz⟩ ⟨ck, cn, cz⟩ = ⟨⟨kk (and3 y z), nn (and3 y z), []⟩, 0⟩ := op_and rb rc hy hz
  have f5 : ∀ u, opR [97, 110, 100] ⟨ak, an, az⟩ ⟨kk u, nn u, []⟩ = ⟨⟨kk (and3 x u), nn (and3 x u), []⟩, 0⟩ := fun u => op_and ra (right_K u) hx (tri_K u)
  have f6 : ∀ u, opR [97, 110, 100] ⟨kk u, nn u, []⟩ ⟨ck, cn, cz⟩ = ⟨⟨kk (and3 u z), nn (and3 u z), []⟩, 0⟩ := fun u => op_and (right_K u) rc (tri_K u) hz
  have f7 : ∀ u v, opR [97, 110, 100] ⟨kk u, nn u, []⟩ ⟨kk v, nn v, []⟩ = ⟨⟨kk (and3 u v), nn (and3 u v), []⟩, 0⟩ := fun u v => op_and (right_K u) (right_K v) (tri_K u) (tri_K v)
  have f8 : opR [111, 114] ⟨ak, an, az⟩ ⟨ak, an, az⟩ = ⟨⟨kk (or3 x x), nn (or3 x x), []⟩, 0⟩ := op_or ra ra hx hx
  have f9 : opR [111, 114] ⟨ak, an, az⟩ ⟨bk, bn, bz⟩ = ⟨⟨kk (or3 x y), nn (or3 x y), []⟩, 0⟩ := op_or ra rb hx hy
  have f10 : opR [111, 114] ⟨ak, an, az⟩ ⟨ck, cn, cz⟩ = ⟨⟨kk (or3 x z), nn (or3 x z), []⟩, 0⟩ := op_or ra rc hx hz
  have f11 : opR [111, 114] ⟨bk, bn, bz⟩ ⟨ak, an, az⟩ = ⟨⟨kk (or3 y x), nn (or3 y x), []⟩, 0⟩ := op_or rb ra hy hx
  have f12 : opR [111, 114] ⟨bk, bn, bz⟩ ⟨ck, cn, cz⟩ = ⟨⟨kk (or3 y z), nn (or3 y z), []⟩, 0⟩ := op_or rb rc hy hz
  have f13 : ∀ u, opR [111, 114] ⟨ak, an, az⟩ ⟨kk u, nn u, []⟩ = ⟨⟨kk (or3 x u), nn (or3 x u), []⟩, 0⟩ := fun u => op_or ra (right_K u) hx (tri_K u)
  have f14 : ∀ u, opR [111, 114] ⟨kk u, nn u, []⟩ ⟨ck, cn, cz⟩ = ⟨⟨kk (or3 u z), nn (or3 u z), []⟩, 0⟩ := fun u => op_or (right_K u) rc (tri_K u) hz
  have f15 : ∀ u v, opR [111, 114] ⟨kk u, nn u, []⟩ ⟨kk v, nn v, []⟩ = ⟨⟨kk (or3 u v), nn (or3 u v), []⟩, 0⟩ := fun u v => op_or (right_K u) (right_K v) (tri_K u) (tri_K v)
  have f16 : oneR [110, 111, 116] ⟨ak, an, az⟩ = ⟨⟨kk (not3 x), nn (not3 x), []⟩, 0⟩ := one_tri ra hx
  have f17 : oneR [110, 111, 116] ⟨bk, bn, bz⟩ = ⟨⟨kk (not3 y), nn (not3 y), []⟩, 0⟩ := one_tri rb hy
  have f18 : ∀ u, oneR [110, 111, 116] ⟨kk u, nn u, []⟩ = ⟨⟨kk (not3 u), nn (not3 u), []⟩, 0⟩ := fun u => one_tri (right_K u) (tri_K u)
  have f19 : and3 y x = and3 x y := and3_comm ..
  have f20 : or3 y x = or3 x y := or3_comm ..
  have f21 : and3 (and3 x y) z = and3 x (and3 y z) := and3_assoc ..
  have f22 : or3 (or3 x y) z = or3 x (or3 y z) := or3_assoc ..
  have f23 : and3 x (or3 y z) = or3 (and3 x y) (and3 x z) := and3_or ..
  have f24 : or3 x (and3 y z) = and3 (or3 x y) (or3 x z) := or3_and ..
  have f25 : not3 (and3 x y) = or3 (not3 x) (not3 y) := not3_and ..
  have f26 : not3 (or3 x y) = and3 (not3 x) (not3 y) := not3_or ..
  have f27 : not3 (not3 x) = x := not3_not ..
  have f28 : and3 x x = x := and3_self ..
  have f29 : or3 x x = x := or3_self ..
  have f30 : and3 x (or3 x y) = x := and3_abs ..
  have f31 : or3 x (and3 x y) = x := or3_abs ..
  have hna := And.intro ha.2 hb.2
  have hnb := And.intro hb.2 ha.2
  have hba := And.intro hb.2 hc.2
  have hac := And.intro ha.2 hc.2
  have haa := And.intro ha.2 ha.2
  have a1 := ha.2.1
  have a2 := ha.2.2
  have c1 := hc.2.1
  have c2 := hc.2.2
  simp only at a1 a2 c1 c2
  clear ha hc hr
  apply loop_unroll E10_ok mixed 4
  repeat' (refine BR.mk (fun h => ?_) (fun h => ?_) <;> first | contradiction | ((try simp [w1, w2, f0, f1, f2, f3, f4, f5, f6, f7, f8, f9, f10, f11, f12, f13, f14, f15, f16, f17, f18, f19, f20, f21, f22, f23, f24, f25, f26, f27, f28, f29, f30, f31] at h) <;> (first | (exfalso; omega) | skip)))
  all_goals try exact Fini.mk rfl
  all_goals try (show commutes _ _ = true; kernel_rfl)
  all_goals try first | exact hna | exact hnb | exact hba | exact hac | exact haa | exact hb.2
  all_goals try exact And.intro (And.intro (by decide) (by decide)) (And.intro rfl rfl)
  all_goals try (refine And.intro ?_ ?_ <;> simp [w1, w2, f0, f1, f2, f3, f4, f5, f6, f7, f8, f9, f10, f11, f12, f13, f14, f15, f16, f17, f18, f19, f20, f21, f22, f23, f24, f25, f26, f27, f28, f29, f30, f31, i64_nn, a1, a2, c1, c2]; done)
  · exact a2
  · exact absurd (tri_truth hx ‹¬ak = 0›) h
  · rename_i hq
    rw [tri_null hx] at hq
    cases hk : (ak == 0) <;> simp [bne, hk] at hq
theorem pc_threeLaw (a b c : V) (ha : okV a) (hb : okV b) (hc : okV c) : PC Tryz.prog GV 4 [encV a, encV b, encV c] (.bool true) := by
  cases hr : (okR a && (okR b && (okR c && true))) with
  | false => exact three_not a b c hr
  | true => exact three_core _ _ _ _ _ _ _ _ _ _ _ _ ha hb hc hr rfl rfl rfl

end Go.Proofs.YtonemoochpopfaaGreatDoor
