/- ValueOrder: the walk. WRITTEN BY A SMALL PROGRAM of this session (laws.py). -/
import Derived.Test.YtonemoochpopfaaGreatDoorVLawR
import Derived.Test.YtonemoochpopfaaGreatDoorVLawA
import Derived.Test.YtonemoochpopfaaGreatDoorVFrame
namespace Go.Proofs.YtonemoochpopfaaGreatDoor
open Go Go.Ab
set_option linter.unusedVariables false
set_option linter.unusedSimpArgs false
set_option maxRecDepth 100000
set_option maxHeartbeats 8000000

theorem boolR_t : boolR true = ⟨⟨1, 1, []⟩, 0⟩ := by unfold boolR; rfl
theorem boolR_f : boolR false = ⟨⟨1, 0, []⟩, 0⟩ := by unfold boolR; rfl
theorem one_not (n : Int) : oneR [110, 111, 116] ⟨1, n, []⟩ = boolR (n == 0) := by
  unfold oneR
  rw [right_num]
  have h : truV ⟨1, n, []⟩ = (n != 0) := by unfold truV; rw [intV_num]; rfl
  simp [h, bne]
theorem okR_right {v : V} (h : okR v = true) : right v = true := by unfold okR at h; simp at h; exact h.1
theorem op_null {sg : List UInt8} (hs : sg ∈ [[61], [60, 62], [60], [60, 61], [62], [62, 61]]) {a b : V} (ha : right a = true) (hb : right b = true) (h : a.k = 0 ∨ b.k = 0) : opR sg a b = ⟨⟨0, 0, []⟩, 0⟩ := by
  unfold opR
  rw [ha, hb]
  simp only [List.mem_cons, List.not_mem_nil, or_false] at hs
  rcases hs with rfl | rfl | rfl | rfl | rfl | rfl <;> simp [known, signs, h, null]

theorem op_eq {a b : V} (ha : right a = true) (hb : right b = true) (na : a.k ≠ 0) (nb : b.k ≠ 0) : opR [61] a b = boolR (compareV a b == 0) := by
  unfold opR
  rw [ha, hb]
  simp [known, signs, na, nb]
theorem op_ne {a b : V} (ha : right a = true) (hb : right b = true) (na : a.k ≠ 0) (nb : b.k ≠ 0) : opR [60, 62] a b = boolR (compareV a b != 0) := by
  unfold opR
  rw [ha, hb]
  simp [known, signs, na, nb]
theorem op_lt {a b : V} (ha : right a = true) (hb : right b = true) (na : a.k ≠ 0) (nb : b.k ≠ 0) : opR [60] a b = boolR (decide (compareV a b < 0)) := by
  unfold opR
  rw [ha, hb]
  simp [known, signs, na, nb]
theorem op_le {a b : V} (ha : right a = true) (hb : right b = true) (na : a.k ≠ 0) (nb : b.k ≠ 0) : opR [60, 61] a b = boolR (decide (compareV a b ≤ 0)) := by
  unfold opR
  rw [ha, hb]
  simp [known, signs, na, nb]
theorem op_gt {a b : V} (ha : right a = true) (hb : right b = true) (na : a.k ≠ 0) (nb : b.k ≠ 0) : opR [62] a b = boolR (decide (compareV a b > 0)) := by
  unfold opR
  rw [ha, hb]
  simp [known, signs, na, nb]
theorem op_ge {a b : V} (ha : right a = true) (hb : right b = true) (na : a.k ≠ 0) (nb : b.k ≠ 0) : opR [62, 61] a b = boolR (decide (compareV a b ≥ 0)) := by
  unfold opR
  rw [ha, hb]
  simp [known, signs, na, nb]
theorem eq_cv {ak bk an bn : Int} {az bz : List UInt8} (ha : right ⟨ak, an, az⟩ = true) (hb : right ⟨bk, bn, bz⟩ = true) {x : Int} (hx : compareV ⟨ak, an, az⟩ ⟨bk, bn, bz⟩ = x) : (ak == bk && (an == bn && (az == bz && true))) = decide (x = 0) := by
  have h := cv_zero ha hb
  rw [hx, V.mk.injEq] at h
  rw [Bool.eq_iff_iff, decide_eq_true_iff, h]
  simp
theorem not_rights {p q r : Bool} (h : ¬ (p = true ∧ q = true ∧ r = true)) : (p && (q && (r && true))) = false := by
  cases p <;> cases q <;> cases r <;> simp_all
theorem order_not (a b c : V) (h : (okR a && (okR b && (okR c && true))) = false) : PC Tryz.prog GV 3 [encV a, encV b, encV c] (.bool true) := by
  refine pc_fin E10_ok mixed (show Tryz.prog.funcs[3]? = some Tryz.f3 from rfl) ?_
  refine BR.mk (fun _ => va_3 rfl rfl rfl) (fun _ => ?_)
  refine BR.mk (fun h' => ?_) (fun h' => ?_)
  · exact Fini.mk rfl
  · exfalso
    have h2 : (!(okR a && (okR b && (okR c && true)))) = false := h'
    rw [h] at h2
    cases h2

theorem i64_1 : i64 1 := by decide
theorem order_mn (ak an bk bn ck cn : Int) (az bz cz : List UInt8) (ha : okV ⟨ak, an, az⟩) (hb : okV ⟨bk, bn, bz⟩) (hr : (okR ⟨ak, an, az⟩ && (okR ⟨bk, bn, bz⟩ && (okR ⟨ck, cn, cz⟩ && true))) = true) (hx : compareV ⟨ak, an, az⟩ ⟨bk, bn, bz⟩ = -1) (hn : ak = 0 ∨ bk = 0) : PC Tryz.prog GV 3 [.agg [.int .u8 ak, .int .i64 an, .str az], .agg [.int .u8 bk, .int .i64 bn, .str bz], .agg [.int .u8 ck, .int .i64 cn, .str cz]] (.bool true) := by
  refine pc_fin E10_ok mixed (show Tryz.prog.funcs[3]? = some Tryz.f3 from rfl) ?_
  refine BR.mk (fun _ => va_3 rfl rfl rfl) (fun _ => ?_)
  refine BR.mk (fun h' => ?_) (fun h' => ?_)
  · exfalso
    have h2 : (!(okR ⟨ak, an, az⟩ && (okR ⟨bk, bn, bz⟩ && (okR ⟨ck, cn, cz⟩ && true)))) = true := h'
    rw [hr] at h2
    cases h2
  clear h'
  simp only [Bool.and_eq_true] at hr
  have ra := okR_right hr.1
  have rb := okR_right hr.2.1
  have he := eq_cv ra rb hx
  have cba : compareV ⟨bk, bn, bz⟩ ⟨ak, an, az⟩ = 1 := by rw [cv_anti, hx] <;> rfl
  obtain ⟨y, cy⟩ : ∃ y, compareV ⟨bk, bn, bz⟩ ⟨ck, cn, cz⟩ = y := ⟨_, rfl⟩
  obtain ⟨z, cz'⟩ : ∃ z, compareV ⟨ak, an, az⟩ ⟨ck, cn, cz⟩ = z := ⟨_, rfl⟩
  have ht := cv_trans ⟨ak, an, az⟩ ⟨bk, bn, bz⟩ ⟨ck, cn, cz⟩
  rw [hx, cy, cz'] at ht
  have w1 : IntKind.i64.wrap 1 = 1 := by decide
  have w2 : IntKind.i64.wrap (-1) = -1 := by decide
  have w3 : IntKind.i64.wrap 0 = 0 := by decide
  have he1 : (ak = bk ∧ an = bn ∧ az = bz) = False := by simpa using he
  clear he
  have n1 : opR [61] ⟨ak, an, az⟩ ⟨bk, bn, bz⟩ = ⟨⟨0, 0, []⟩, 0⟩ := op_null (by simp) ra rb hn
  have n2 : opR [60] ⟨ak, an, az⟩ ⟨bk, bn, bz⟩ = ⟨⟨0, 0, []⟩, 0⟩ := op_null (by simp) ra rb hn
  have hna := And.intro ha.2 hb.2
  have hnb := And.intro hb.2 ha.2
  clear ha hb hr
  repeat' (refine BR.mk (fun h => ?_) (fun h => ?_) <;> first | contradiction | ((try simp [hx, cba, cy, cz', w1, w2, w3, he1, n1, n2] at h) <;> (first | (exfalso; omega) | skip)))
  all_goals try exact Fini.mk rfl
  all_goals try (show commutes _ _ = true; kernel_rfl)
  all_goals try exact hna
  all_goals try exact hnb
  all_goals try (refine And.intro ?_ ?_ <;> simp [hx, cba, cy, cz', w1, w2, w3, he1, n1, n2, i64_0, i64_1]; done)

theorem order_m (ak an bk bn ck cn : Int) (az bz cz : List UInt8) (ha : okV ⟨ak, an, az⟩) (hb : okV ⟨bk, bn, bz⟩) (hr : (okR ⟨ak, an, az⟩ && (okR ⟨bk, bn, bz⟩ && (okR ⟨ck, cn, cz⟩ && true))) = true) (hx : compareV ⟨ak, an, az⟩ ⟨bk, bn, bz⟩ = -1) (na : ak ≠ 0) (nb : bk ≠ 0) : PC Tryz.prog GV 3 [.agg [.int .u8 ak, .int .i64 an, .str az], .agg [.int .u8 bk, .int .i64 bn, .str bz], .agg [.int .u8 ck, .int .i64 cn, .str cz]] (.bool true) := by
  refine pc_fin E10_ok mixed (show Tryz.prog.funcs[3]? = some Tryz.f3 from rfl) ?_
  refine BR.mk (fun _ => va_3 rfl rfl rfl) (fun _ => ?_)
  refine BR.mk (fun h' => ?_) (fun h' => ?_)
  · exfalso
    have h2 : (!(okR ⟨ak, an, az⟩ && (okR ⟨bk, bn, bz⟩ && (okR ⟨ck, cn, cz⟩ && true)))) = true := h'
    rw [hr] at h2
    cases h2
  clear h'
  simp only [Bool.and_eq_true] at hr
  have ra := okR_right hr.1
  have rb := okR_right hr.2.1
  have he := eq_cv ra rb hx
  have cba : compareV ⟨bk, bn, bz⟩ ⟨ak, an, az⟩ = 1 := by rw [cv_anti, hx] <;> rfl
  obtain ⟨y, cy⟩ : ∃ y, compareV ⟨bk, bn, bz⟩ ⟨ck, cn, cz⟩ = y := ⟨_, rfl⟩
  obtain ⟨z, cz'⟩ : ∃ z, compareV ⟨ak, an, az⟩ ⟨ck, cn, cz⟩ = z := ⟨_, rfl⟩
  have ht := cv_trans ⟨ak, an, az⟩ ⟨bk, bn, bz⟩ ⟨ck, cn, cz⟩
  rw [hx, cy, cz'] at ht
  have w1 : IntKind.i64.wrap 1 = 1 := by decide
  have w2 : IntKind.i64.wrap (-1) = -1 := by decide
  have w3 : IntKind.i64.wrap 0 = 0 := by decide
  have he1 : (ak = bk ∧ an = bn ∧ az = bz) = False := by simpa using he
  clear he
  have o0 : opR [61] ⟨ak, an, az⟩ ⟨bk, bn, bz⟩ = ⟨⟨1, 0, []⟩, 0⟩ := by rw [op_eq ra rb na nb, hx] <;> exact boolR_f
  have o1 : opR [60, 62] ⟨ak, an, az⟩ ⟨bk, bn, bz⟩ = ⟨⟨1, 1, []⟩, 0⟩ := by rw [op_ne ra rb na nb, hx] <;> exact boolR_t
  have o2 : opR [60] ⟨ak, an, az⟩ ⟨bk, bn, bz⟩ = ⟨⟨1, 1, []⟩, 0⟩ := by rw [op_lt ra rb na nb, hx] <;> exact boolR_t
  have o3 : opR [60, 61] ⟨ak, an, az⟩ ⟨bk, bn, bz⟩ = ⟨⟨1, 1, []⟩, 0⟩ := by rw [op_le ra rb na nb, hx] <;> exact boolR_t
  have o4 : opR [62] ⟨ak, an, az⟩ ⟨bk, bn, bz⟩ = ⟨⟨1, 0, []⟩, 0⟩ := by rw [op_gt ra rb na nb, hx] <;> exact boolR_f
  have o5 : opR [62, 61] ⟨ak, an, az⟩ ⟨bk, bn, bz⟩ = ⟨⟨1, 0, []⟩, 0⟩ := by rw [op_ge ra rb na nb, hx] <;> exact boolR_f
  have o6 : opR [62] ⟨bk, bn, bz⟩ ⟨ak, an, az⟩ = ⟨⟨1, 1, []⟩, 0⟩ := by rw [op_gt rb ra nb na, cba] <;> exact boolR_t
  have p1 : oneR [110, 111, 116] ⟨1, 0, []⟩ = ⟨⟨1, 1, []⟩, 0⟩ := by rw [one_not]; exact boolR_t
  have p2 : oneR [110, 111, 116] ⟨1, 1, []⟩ = ⟨⟨1, 0, []⟩, 0⟩ := by rw [one_not]; exact boolR_f
  have hna := And.intro ha.2 hb.2
  have hnb := And.intro hb.2 ha.2
  clear ha hb hr
  repeat' (refine BR.mk (fun h => ?_) (fun h => ?_) <;> first | contradiction | ((try simp [hx, cba, cy, cz', w1, w2, w3, he1, o0, o1, o2, o3, o4, o5, o6, p1, p2, na, nb] at h) <;> (first | (exfalso; omega) | skip)))
  all_goals try exact Fini.mk rfl
  all_goals try (show commutes _ _ = true; kernel_rfl)
  all_goals try exact hna
  all_goals try exact hnb
  all_goals try (refine And.intro ?_ ?_ <;> simp [hx, cba, cy, cz', w1, w2, w3, he1, o0, o1, o2, o3, o4, o5, o6, p1, p2, na, nb, i64_0, i64_1]; done)

theorem order_zn (ak an bk bn ck cn : Int) (az bz cz : List UInt8) (ha : okV ⟨ak, an, az⟩) (hb : okV ⟨bk, bn, bz⟩) (hr : (okR ⟨ak, an, az⟩ && (okR ⟨bk, bn, bz⟩ && (okR ⟨ck, cn, cz⟩ && true))) = true) (hx : compareV ⟨ak, an, az⟩ ⟨bk, bn, bz⟩ = 0) (hn : ak = 0 ∨ bk = 0) : PC Tryz.prog GV 3 [.agg [.int .u8 ak, .int .i64 an, .str az], .agg [.int .u8 bk, .int .i64 bn, .str bz], .agg [.int .u8 ck, .int .i64 cn, .str cz]] (.bool true) := by
  refine pc_fin E10_ok mixed (show Tryz.prog.funcs[3]? = some Tryz.f3 from rfl) ?_
  refine BR.mk (fun _ => va_3 rfl rfl rfl) (fun _ => ?_)
  refine BR.mk (fun h' => ?_) (fun h' => ?_)
  · exfalso
    have h2 : (!(okR ⟨ak, an, az⟩ && (okR ⟨bk, bn, bz⟩ && (okR ⟨ck, cn, cz⟩ && true)))) = true := h'
    rw [hr] at h2
    cases h2
  clear h'
  simp only [Bool.and_eq_true] at hr
  have ra := okR_right hr.1
  have rb := okR_right hr.2.1
  have he := eq_cv ra rb hx
  have cba : compareV ⟨bk, bn, bz⟩ ⟨ak, an, az⟩ = 0 := by rw [cv_anti, hx] <;> rfl
  obtain ⟨y, cy⟩ : ∃ y, compareV ⟨bk, bn, bz⟩ ⟨ck, cn, cz⟩ = y := ⟨_, rfl⟩
  obtain ⟨z, cz'⟩ : ∃ z, compareV ⟨ak, an, az⟩ ⟨ck, cn, cz⟩ = z := ⟨_, rfl⟩
  have ht := cv_trans ⟨ak, an, az⟩ ⟨bk, bn, bz⟩ ⟨ck, cn, cz⟩
  rw [hx, cy, cz'] at ht
  have w1 : IntKind.i64.wrap 1 = 1 := by decide
  have w2 : IntKind.i64.wrap (-1) = -1 := by decide
  have w3 : IntKind.i64.wrap 0 = 0 := by decide
  have he0 : ak = bk ∧ an = bn ∧ az = bz := by simpa using he
  have he1 : (ak == bk) = true := beq_iff_eq.2 he0.1
  have he2 : (an == bn) = true := beq_iff_eq.2 he0.2.1
  have he3 : (az == bz) = true := beq_iff_eq.2 he0.2.2
  clear he he0
  have n1 : opR [61] ⟨ak, an, az⟩ ⟨bk, bn, bz⟩ = ⟨⟨0, 0, []⟩, 0⟩ := op_null (by simp) ra rb hn
  have n2 : opR [60] ⟨ak, an, az⟩ ⟨bk, bn, bz⟩ = ⟨⟨0, 0, []⟩, 0⟩ := op_null (by simp) ra rb hn
  have hna := And.intro ha.2 hb.2
  have hnb := And.intro hb.2 ha.2
  clear ha hb hr
  repeat' (refine BR.mk (fun h => ?_) (fun h => ?_) <;> first | contradiction | ((try simp [hx, cba, cy, cz', w1, w2, w3, he1, he2, he3, n1, n2] at h) <;> (first | (exfalso; omega) | skip)))
  all_goals try exact Fini.mk rfl
  all_goals try (show commutes _ _ = true; kernel_rfl)
  all_goals try exact hna
  all_goals try exact hnb
  all_goals try (refine And.intro ?_ ?_ <;> simp [hx, cba, cy, cz', w1, w2, w3, he1, he2, he3, n1, n2, i64_0, i64_1]; done)

theorem order_z (ak an bk bn ck cn : Int) (az bz cz : List UInt8) (ha : okV ⟨ak, an, az⟩) (hb : okV ⟨bk, bn, bz⟩) (hr : (okR ⟨ak, an, az⟩ && (okR ⟨bk, bn, bz⟩ && (okR ⟨ck, cn, cz⟩ && true))) = true) (hx : compareV ⟨ak, an, az⟩ ⟨bk, bn, bz⟩ = 0) (na : ak ≠ 0) (nb : bk ≠ 0) : PC Tryz.prog GV 3 [.agg [.int .u8 ak, .int .i64 an, .str az], .agg [.int .u8 bk, .int .i64 bn, .str bz], .agg [.int .u8 ck, .int .i64 cn, .str cz]] (.bool true) := by
  refine pc_fin E10_ok mixed (show Tryz.prog.funcs[3]? = some Tryz.f3 from rfl) ?_
  refine BR.mk (fun _ => va_3 rfl rfl rfl) (fun _ => ?_)
  refine BR.mk (fun h' => ?_) (fun h' => ?_)
  · exfalso
    have h2 : (!(okR ⟨ak, an, az⟩ && (okR ⟨bk, bn, bz⟩ && (okR ⟨ck, cn, cz⟩ && true)))) = true := h'
    rw [hr] at h2
    cases h2
  clear h'
  simp only [Bool.and_eq_true] at hr
  have ra := okR_right hr.1
  have rb := okR_right hr.2.1
  have he := eq_cv ra rb hx
  have cba : compareV ⟨bk, bn, bz⟩ ⟨ak, an, az⟩ = 0 := by rw [cv_anti, hx] <;> rfl
  obtain ⟨y, cy⟩ : ∃ y, compareV ⟨bk, bn, bz⟩ ⟨ck, cn, cz⟩ = y := ⟨_, rfl⟩
  obtain ⟨z, cz'⟩ : ∃ z, compareV ⟨ak, an, az⟩ ⟨ck, cn, cz⟩ = z := ⟨_, rfl⟩
  have ht := cv_trans ⟨ak, an, az⟩ ⟨bk, bn, bz⟩ ⟨ck, cn, cz⟩
  rw [hx, cy, cz'] at ht
  have w1 : IntKind.i64.wrap 1 = 1 := by decide
  have w2 : IntKind.i64.wrap (-1) = -1 := by decide
  have w3 : IntKind.i64.wrap 0 = 0 := by decide
  have he0 : ak = bk ∧ an = bn ∧ az = bz := by simpa using he
  have he1 : (ak == bk) = true := beq_iff_eq.2 he0.1
  have he2 : (an == bn) = true := beq_iff_eq.2 he0.2.1
  have he3 : (az == bz) = true := beq_iff_eq.2 he0.2.2
  clear he he0
  have o0 : opR [61] ⟨ak, an, az⟩ ⟨bk, bn, bz⟩ = ⟨⟨1, 1, []⟩, 0⟩ := by rw [op_eq ra rb na nb, hx] <;> exact boolR_t
  have o1 : opR [60, 62] ⟨ak, an, az⟩ ⟨bk, bn, bz⟩ = ⟨⟨1, 0, []⟩, 0⟩ := by rw [op_ne ra rb na nb, hx] <;> exact boolR_f
  have o2 : opR [60] ⟨ak, an, az⟩ ⟨bk, bn, bz⟩ = ⟨⟨1, 0, []⟩, 0⟩ := by rw [op_lt ra rb na nb, hx] <;> exact boolR_f
  have o3 : opR [60, 61] ⟨ak, an, az⟩ ⟨bk, bn, bz⟩ = ⟨⟨1, 1, []⟩, 0⟩ := by rw [op_le ra rb na nb, hx] <;> exact boolR_t
  have o4 : opR [62] ⟨ak, an, az⟩ ⟨bk, bn, bz⟩ = ⟨⟨1, 0, []⟩, 0⟩ := by rw [op_gt ra rb na nb, hx] <;> exact boolR_f
  have o5 : opR [62, 61] ⟨ak, an, az⟩ ⟨bk, bn, bz⟩ = ⟨⟨1, 1, []⟩, 0⟩ := by rw [op_ge ra rb na nb, hx] <;> exact boolR_t
  have o6 : opR [62] ⟨bk, bn, bz⟩ ⟨ak, an, az⟩ = ⟨⟨1, 0, []⟩, 0⟩ := by rw [op_gt rb ra nb na, cba] <;> exact boolR_f
  have p1 : oneR [110, 111, 116] ⟨1, 0, []⟩ = ⟨⟨1, 1, []⟩, 0⟩ := by rw [one_not]; exact boolR_t
  have p2 : oneR [110, 111, 116] ⟨1, 1, []⟩ = ⟨⟨1, 0, []⟩, 0⟩ := by rw [one_not]; exact boolR_f
  have hna := And.intro ha.2 hb.2
  have hnb := And.intro hb.2 ha.2
  clear ha hb hr
  repeat' (refine BR.mk (fun h => ?_) (fun h => ?_) <;> first | contradiction | ((try simp [hx, cba, cy, cz', w1, w2, w3, he1, he2, he3, o0, o1, o2, o3, o4, o5, o6, p1, p2, na, nb] at h) <;> (first | (exfalso; omega) | skip)))
  all_goals try exact Fini.mk rfl
  all_goals try (show commutes _ _ = true; kernel_rfl)
  all_goals try exact hna
  all_goals try exact hnb
  all_goals try (refine And.intro ?_ ?_ <;> simp [hx, cba, cy, cz', w1, w2, w3, he1, he2, he3, o0, o1, o2, o3, o4, o5, o6, p1, p2, na, nb, i64_0, i64_1]; done)

theorem order_pn (ak an bk bn ck cn : Int) (az bz cz : List UInt8) (ha : okV ⟨ak, an, az⟩) (hb : okV ⟨bk, bn, bz⟩) (hr : (okR ⟨ak, an, az⟩ && (okR ⟨bk, bn, bz⟩ && (okR ⟨ck, cn, cz⟩ && true))) = true) (hx : compareV ⟨ak, an, az⟩ ⟨bk, bn, bz⟩ = 1) (hn : ak = 0 ∨ bk = 0) : PC Tryz.prog GV 3 [.agg [.int .u8 ak, .int .i64 an, .str az], .agg [.int .u8 bk, .int .i64 bn, .str bz], .agg [.int .u8 ck, .int .i64 cn, .str cz]] (.bool true) := by
  refine pc_fin E10_ok mixed (show Tryz.prog.funcs[3]? = some Tryz.f3 from rfl) ?_
  refine BR.mk (fun _ => va_3 rfl rfl rfl) (fun _ => ?_)
  refine BR.mk (fun h' => ?_) (fun h' => ?_)
  · exfalso
    have h2 : (!(okR ⟨ak, an, az⟩ && (okR ⟨bk, bn, bz⟩ && (okR ⟨ck, cn, cz⟩ && true)))) = true := h'
    rw [hr] at h2
    cases h2
  clear h'
  simp only [Bool.and_eq_true] at hr
  have ra := okR_right hr.1
  have rb := okR_right hr.2.1
  have he := eq_cv ra rb hx
  have cba : compareV ⟨bk, bn, bz⟩ ⟨ak, an, az⟩ = -1 := by rw [cv_anti, hx] <;> rfl
  obtain ⟨y, cy⟩ : ∃ y, compareV ⟨bk, bn, bz⟩ ⟨ck, cn, cz⟩ = y := ⟨_, rfl⟩
  obtain ⟨z, cz'⟩ : ∃ z, compareV ⟨ak, an, az⟩ ⟨ck, cn, cz⟩ = z := ⟨_, rfl⟩
  have ht := cv_trans ⟨ak, an, az⟩ ⟨bk, bn, bz⟩ ⟨ck, cn, cz⟩
  rw [hx, cy, cz'] at ht
  have w1 : IntKind.i64.wrap 1 = 1 := by decide
  have w2 : IntKind.i64.wrap (-1) = -1 := by decide
  have w3 : IntKind.i64.wrap 0 = 0 := by decide
  have he1 : (ak = bk ∧ an = bn ∧ az = bz) = False := by simpa using he
  clear he
  have n1 : opR [61] ⟨ak, an, az⟩ ⟨bk, bn, bz⟩ = ⟨⟨0, 0, []⟩, 0⟩ := op_null (by simp) ra rb hn
  have n2 : opR [60] ⟨ak, an, az⟩ ⟨bk, bn, bz⟩ = ⟨⟨0, 0, []⟩, 0⟩ := op_null (by simp) ra rb hn
  have hna := And.intro ha.2 hb.2
  have hnb := And.intro hb.2 ha.2
  clear ha hb hr
  repeat' (refine BR.mk (fun h => ?_) (fun h => ?_) <;> first | contradiction | ((try simp [hx, cba, cy, cz', w1, w2, w3, he1, n1, n2] at h) <;> (first | (exfalso; omega) | skip)))
  all_goals try exact Fini.mk rfl
  all_goals try (show commutes _ _ = true; kernel_rfl)
  all_goals try exact hna
  all_goals try exact hnb
  all_goals try (refine And.intro ?_ ?_ <;> simp [hx, cba, cy, cz', w1, w2, w3, he1, n1, n2, i64_0, i64_1]; done)

theorem order_p (ak an bk bn ck cn : Int) (az bz cz : List UInt8) (ha : okV ⟨ak, an, az⟩) (hb : okV ⟨bk, bn, bz⟩) (hr : (okR ⟨ak, an, az⟩ && (okR ⟨bk, bn, bz⟩ && (okR ⟨ck, cn, cz⟩ && true))) = true) (hx : compareV ⟨ak, an, az⟩ ⟨bk, bn, bz⟩ = 1) (na : ak ≠ 0) (nb : bk ≠ 0) : PC Tryz.prog GV 3 [.agg [.int .u8 ak, .int .i64 an, .str az], .agg [.int .u8 bk, .int .i64 bn, .str bz], .agg [.int .u8 ck, .int .i64 cn, .str cz]] (.bool true) := by
  refine pc_fin E10_ok mixed (show Tryz.prog.funcs[3]? = some Tryz.f3 from rfl) ?_
  refine BR.mk (fun _ => va_3 rfl rfl rfl) (fun _ => ?_)
  refine BR.mk (fun h' => ?_) (fun h' => ?_)
  · exfalso
    have h2 : (!(okR ⟨ak, an, az⟩ && (okR ⟨bk, bn, bz⟩ && (okR ⟨ck, cn, cz⟩ && true)))) = true := h'
    rw [hr] at h2
    cases h2
  clear h'
  simp only [Bool.and_eq_true] at hr
  have ra := okR_right hr.1
  have rb := okR_right hr.2.1
  have he := eq_cv ra rb hx
  have cba : compareV ⟨bk, bn, bz⟩ ⟨ak, an, az⟩ = -1 := by rw [cv_anti, hx] <;> rfl
  obtain ⟨y, cy⟩ : ∃ y, compareV ⟨bk, bn, bz⟩ ⟨ck, cn, cz⟩ = y := ⟨_, rfl⟩
  obtain ⟨z, cz'⟩ : ∃ z, compareV ⟨ak, an, az⟩ ⟨ck, cn, cz⟩ = z := ⟨_, rfl⟩
  have ht := cv_trans ⟨ak, an, az⟩ ⟨bk, bn, bz⟩ ⟨ck, cn, cz⟩
  rw [hx, cy, cz'] at ht
  have w1 : IntKind.i64.wrap 1 = 1 := by decide
  have w2 : IntKind.i64.wrap (-1) = -1 := by decide
  have w3 : IntKind.i64.wrap 0 = 0 := by decide
  have he1 : (ak = bk ∧ an = bn ∧ az = bz) = False := by simpa using he
  clear he
  have o0 : opR [61] ⟨ak, an, az⟩ ⟨bk, bn, bz⟩ = ⟨⟨1, 0, []⟩, 0⟩ := by rw [op_eq ra rb na nb, hx] <;> exact boolR_f
  have o1 : opR [60, 62] ⟨ak, an, az⟩ ⟨bk, bn, bz⟩ = ⟨⟨1, 1, []⟩, 0⟩ := by rw [op_ne ra rb na nb, hx] <;> exact boolR_t
  have o2 : opR [60] ⟨ak, an, az⟩ ⟨bk, bn, bz⟩ = ⟨⟨1, 0, []⟩, 0⟩ := by rw [op_lt ra rb na nb, hx] <;> exact boolR_f
  have o3 : opR [60, 61] ⟨ak, an, az⟩ ⟨bk, bn, bz⟩ = ⟨⟨1, 0, []⟩, 0⟩ := by rw [op_le ra rb na nb, hx] <;> exact boolR_f
  have o4 : opR [62] ⟨ak, an, az⟩ ⟨bk, bn, bz⟩ = ⟨⟨1, 1, []⟩, 0⟩ := by rw [op_gt ra rb na nb, hx] <;> exact boolR_t
  have o5 : opR [62, 61] ⟨ak, an, az⟩ ⟨bk, bn, bz⟩ = ⟨⟨1, 1, []⟩, 0⟩ := by rw [op_ge ra rb na nb, hx] <;> exact boolR_t
  have o6 : opR [62] ⟨bk, bn, bz⟩ ⟨ak, an, az⟩ = ⟨⟨1, 0, []⟩, 0⟩ := by rw [op_gt rb ra nb na, cba] <;> exact boolR_f
  have p1 : oneR [110, 111, 116] ⟨1, 0, []⟩ = ⟨⟨1, 1, []⟩, 0⟩ := by rw [one_not]; exact boolR_t
  have p2 : oneR [110, 111, 116] ⟨1, 1, []⟩ = ⟨⟨1, 0, []⟩, 0⟩ := by rw [one_not]; exact boolR_f
  have hna := And.intro ha.2 hb.2
  have hnb := And.intro hb.2 ha.2
  clear ha hb hr
  repeat' (refine BR.mk (fun h => ?_) (fun h => ?_) <;> first | contradiction | ((try simp [hx, cba, cy, cz', w1, w2, w3, he1, o0, o1, o2, o3, o4, o5, o6, p1, p2, na, nb] at h) <;> (first | (exfalso; omega) | skip)))
  all_goals try exact Fini.mk rfl
  all_goals try (show commutes _ _ = true; kernel_rfl)
  all_goals try exact hna
  all_goals try exact hnb
  all_goals try (refine And.intro ?_ ?_ <;> simp [hx, cba, cy, cz', w1, w2, w3, he1, o0, o1, o2, o3, o4, o5, o6, p1, p2, na, nb, i64_0, i64_1]; done)

theorem pc_orderLaw (a b c : V) (ha : okV a) (hb : okV b) (hc : okV c) : PC Tryz.prog GV 3 [encV a, encV b, encV c] (.bool true) := by
  cases hr : (okR a && (okR b && (okR c && true))) with
  | false => exact order_not a b c hr
  | true =>
    obtain ⟨ak, an, az⟩ := a
    obtain ⟨bk, bn, bz⟩ := b
    obtain ⟨ck, cn, cz⟩ := c
    have hx := cv_range ⟨ak, an, az⟩ ⟨bk, bn, bz⟩
    have hx' : compareV ⟨ak, an, az⟩ ⟨bk, bn, bz⟩ = -1 ∨ compareV ⟨ak, an, az⟩ ⟨bk, bn, bz⟩ = 0 ∨ compareV ⟨ak, an, az⟩ ⟨bk, bn, bz⟩ = 1 := by omega
    by_cases hn : ak = 0 ∨ bk = 0
    · rcases hx' with h | h | h
      · exact order_mn _ _ _ _ _ _ _ _ _ ha hb hr h hn
      · exact order_zn _ _ _ _ _ _ _ _ _ ha hb hr h hn
      · exact order_pn _ _ _ _ _ _ _ _ _ ha hb hr h hn
    · have na : ak ≠ 0 := fun h => hn (.inl h)
      have nb : bk ≠ 0 := fun h => hn (.inr h)
      rcases hx' with h | h | h
      · exact order_m _ _ _ _ _ _ _ _ _ ha hb hr h na nb
      · exact order_z _ _ _ _ _ _ _ _ _ ha hb hr h na nb
      · exact order_p _ _ _ _ _ _ _ _ _ ha hb hr h na nb

end Go.Proofs.YtonemoochpopfaaGreatDoor
