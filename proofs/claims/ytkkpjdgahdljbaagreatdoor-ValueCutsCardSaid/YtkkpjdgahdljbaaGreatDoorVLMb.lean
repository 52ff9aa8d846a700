/- ValueCuts: walks: the walk. WRITTEN BY A SMALL PROGRAM of this session (laws.py). -/
import Derived.Test.YtkkpjdgahdljbaaGreatDoorVLMa
section
namespace Go.Proofs.YtkkpjdgahdljbaaGreatDoor
open Go Go.Ab
set_option linter.unusedVariables false
set_option linter.unusedSimpArgs false
set_option maxRecDepth 100000
set_option maxHeartbeats 8000000

theorem cuts_a (s t : List UInt8) (a0 : Int) (k : Nat) (hs : s.length ≤ 300) (ht : t.length ≤ 300) (ha : 0 ≤ a0 ∧ a0 ≤ 65535) (hk : Int.tmod a0 ((s.length : Int) + 1) = k) (hk2 : k ≤ s.length) (hi : Lib.index s t = -1) (hkl : k < s.length) : PC Tryz.prog GV 3 [.str s, .str t, .int .u16 a0] (.bool true) := by
  refine pc_fin E17_ok mixed (show Tryz.prog.funcs[3]? = some Tryz.f3 from rfl) ?_
  have w1 : IntKind.i64.wrap ((s.length : Int) + 1) = (s.length : Int) + 1 := wrap_id (by unfold i64; omega)
  have wa : IntKind.i64.wrap a0 = a0 := wrap_id (by unfold i64; omega)
  have wk : IntKind.i64.wrap ((k : Int) + 1) = (k : Int) + 1 := wrap_id (by unfold i64; omega)
  have wl : IntKind.i64.wrap ((s.length : Int) - k) = (s.length : Int) - k := wrap_id (by unfold i64; omega)
  have wb : IntKind.i64.wrap ((k : Int) - s.length) = (k : Int) - s.length := wrap_id (by unfold i64; omega)
  have wn : IntKind.i64.wrap (-(k : Int)) = -(k : Int) := wrap_id (by unfold i64; omega)
  have wt : IntKind.i64.wrap (t.length : Int) = (t.length : Int) := wrap_id (by unfold i64; omega)
  have ws : IntKind.i64.wrap (s.length : Int) = (s.length : Int) := wrap_id (by unfold i64; omega)
  have w2 : IntKind.i64.wrap (2 * (s.length : Int)) = 2 * (s.length : Int) := wrap_id (by unfold i64; omega)
  have c1 : call3 ⟨2, 0, s⟩ ⟨1, 1, []⟩ ⟨1, (k : Int), []⟩ = ⟨⟨2, 0, s.take k⟩, 0⟩ := by unfold call3; rw [intV_num, intV_num]; simp only; rw [cut3_take s k hk2]
  have c2 : call2 [115, 117, 98, 115, 116, 114] ⟨2, 0, s⟩ ⟨1, (k : Int) + 1, []⟩ = ⟨⟨2, 0, s.drop k⟩, 0⟩ := by unfold call2; rw [if_neg (by decide), intV_num]; simp only; rw [cut2_drop s k hk2]
  have c3 : call3 ⟨2, 0, s⟩ ⟨1, (k : Int) + 1, []⟩ ⟨1, -(k : Int), []⟩ = ⟨⟨2, 0, s.take k⟩, 0⟩ := by unfold call3; rw [intV_num, intV_num]; simp only; rw [cut3_back s k hk2]
  have c4 : call2 [115, 117, 98, 115, 116, 114] ⟨2, 0, s⟩ ⟨1, (k : Int) - s.length, []⟩ = ⟨⟨2, 0, cut2 s ((k : Int) - s.length)⟩, 0⟩ := by unfold call2; rw [if_neg (by decide), intV_num]
  have c5 : k < s.length → cut2 s ((k : Int) - s.length) = s.drop k := cut2_back s k
  have o1 : opR [124, 124] ⟨2, 0, s.take k⟩ ⟨2, 0, s.drop k⟩ = ⟨⟨2, 0, s⟩, 0⟩ := by
    rw [op_cat (by simp; omega) (by simp; omega) (by rw [List.take_append_drop]; omega), List.take_append_drop]
  have l1 : ((s.take k).length : Int) = k := by simp; omega
  have l2 : ((s.drop k).length : Int) = (s.length : Int) - k := by simp; omega
  have u1 := @c_up s (by omega)
  have u2 := @c_lo s (by omega)
  have u3 := @c_up (casedS 65 s) (by rw [ca_len]; omega)
  have u4 := @c_lo (casedS 97 s) (by rw [ca_len]; omega)
  have u5 := @c_up (casedS 97 s) (by rw [ca_len]; omega)
  have u6 := @c_hx s (by omega)
  have u7 := @c_up (hexS s) (by rw [hexS_len]; omega)
  rw [ca_ul] at u3
  rw [ca_uu] at u5
  rw [ca_hex] at u7
  have v4 : casedS 65 (casedS 97 s) = casedS 65 s := ca_lu s
  rw [v4] at u4
  have n1 := c_in s t
  rw [hi] at n1
  have e1 : Lib.contains s t = false := by unfold Lib.contains; rw [hi]; decide
  have c5 := c5 hkl
  repeat' (refine BR.mk (fun h => ?_) (fun h => ?_) <;> first | contradiction | ((try simp [w1, wa, hk, wk, wl, wb, wn, wt, ws, w2, c1, c2, c3, c4, o1, l1, l2, u1, u2, u3, u4, u5, u6, u7, n1, c_len, numV, ca_len, hexS_len, e1, c5, hkl] at h) <;> (first | (exfalso; omega) | skip)))
  all_goals try exact Fini.mk rfl
  all_goals try (show commutes _ _ = true; kernel_rfl)
  all_goals try simp only [w1, wa, hk, wk, wl, wb, wn, wt, ws, c1, c2, c3, c4, u1, u2, u4, u6, Int.zero_sub, n1, hi]
  all_goals try first
    | exact D3 (by omega) (by unfold sm; omega) (by unfold sm; omega)
    | exact D2s (by omega) (by unfold sm; omega)
    | exact D2i (by omega) (by omega)
    | exact D1 (by simp) (by first | omega | (simp [ca_len, hexS_len]; omega))
    | exact ⟨⟨i64_0, by simp; omega⟩, i64_0, by simp; omega⟩
    | omega
    | (simp; omega)
theorem cuts_b (s t : List UInt8) (a0 : Int) (k : Nat) (hs : s.length ≤ 300) (ht : t.length ≤ 300) (ha : 0 ≤ a0 ∧ a0 ≤ 65535) (hk : Int.tmod a0 ((s.length : Int) + 1) = k) (hk2 : k ≤ s.length) (hi : Lib.index s t = -1) (hkl : ¬ k < s.length) : PC Tryz.prog GV 3 [.str s, .str t, .int .u16 a0] (.bool true) := by
  refine pc_fin E17_ok mixed (show Tryz.prog.funcs[3]? = some Tryz.f3 from rfl) ?_
  have w1 : IntKind.i64.wrap ((s.length : Int) + 1) = (s.length : Int) + 1 := wrap_id (by unfold i64; omega)
  have wa : IntKind.i64.wrap a0 = a0 := wrap_id (by unfold i64; omega)
  have wk : IntKind.i64.wrap ((k : Int) + 1) = (k : Int) + 1 := wrap_id (by unfold i64; omega)
  have wl : IntKind.i64.wrap ((s.length : Int) - k) = (s.length : Int) - k := wrap_id (by unfold i64; omega)
  have wb : IntKind.i64.wrap ((k : Int) - s.length) = (k : Int) - s.length := wrap_id (by unfold i64; omega)
  have wn : IntKind.i64.wrap (-(k : Int)) = -(k : Int) := wrap_id (by unfold i64; omega)
  have wt : IntKind.i64.wrap (t.length : Int) = (t.length : Int) := wrap_id (by unfold i64; omega)
  have ws : IntKind.i64.wrap (s.length : Int) = (s.length : Int) := wrap_id (by unfold i64; omega)
  have w2 : IntKind.i64.wrap (2 * (s.length : Int)) = 2 * (s.length : Int) := wrap_id (by unfold i64; omega)
  have c1 : call3 ⟨2, 0, s⟩ ⟨1, 1, []⟩ ⟨1, (k : Int), []⟩ = ⟨⟨2, 0, s.take k⟩, 0⟩ := by unfold call3; rw [intV_num, intV_num]; simp only; rw [cut3_take s k hk2]
  have c2 : call2 [115, 117, 98, 115, 116, 114] ⟨2, 0, s⟩ ⟨1, (k : Int) + 1, []⟩ = ⟨⟨2, 0, s.drop k⟩, 0⟩ := by unfold call2; rw [if_neg (by decide), intV_num]; simp only; rw [cut2_drop s k hk2]
  have c3 : call3 ⟨2, 0, s⟩ ⟨1, (k : Int) + 1, []⟩ ⟨1, -(k : Int), []⟩ = ⟨⟨2, 0, s.take k⟩, 0⟩ := by unfold call3; rw [intV_num, intV_num]; simp only; rw [cut3_back s k hk2]
  have c4 : call2 [115, 117, 98, 115, 116, 114] ⟨2, 0, s⟩ ⟨1, (k : Int) - s.length, []⟩ = ⟨⟨2, 0, cut2 s ((k : Int) - s.length)⟩, 0⟩ := by unfold call2; rw [if_neg (by decide), intV_num]
  have c5 : k < s.length → cut2 s ((k : Int) - s.length) = s.drop k := cut2_back s k
  have o1 : opR [124, 124] ⟨2, 0, s.take k⟩ ⟨2, 0, s.drop k⟩ = ⟨⟨2, 0, s⟩, 0⟩ := by
    rw [op_cat (by simp; omega) (by simp; omega) (by rw [List.take_append_drop]; omega), List.take_append_drop]
  have l1 : ((s.take k).length : Int) = k := by simp; omega
  have l2 : ((s.drop k).length : Int) = (s.length : Int) - k := by simp; omega
  have u1 := @c_up s (by omega)
  have u2 := @c_lo s (by omega)
  have u3 := @c_up (casedS 65 s) (by rw [ca_len]; omega)
  have u4 := @c_lo (casedS 97 s) (by rw [ca_len]; omega)
  have u5 := @c_up (casedS 97 s) (by rw [ca_len]; omega)
  have u6 := @c_hx s (by omega)
  have u7 := @c_up (hexS s) (by rw [hexS_len]; omega)
  rw [ca_ul] at u3
  rw [ca_uu] at u5
  rw [ca_hex] at u7
  have v4 : casedS 65 (casedS 97 s) = casedS 65 s := ca_lu s
  rw [v4] at u4
  have n1 := c_in s t
  rw [hi] at n1
  have e1 : Lib.contains s t = false := by unfold Lib.contains; rw [hi]; decide
  have hkl' : k = s.length := by omega
  repeat' (refine BR.mk (fun h => ?_) (fun h => ?_) <;> first | contradiction | ((try simp [w1, wa, hk, wk, wl, wb, wn, wt, ws, w2, c1, c2, c3, c4, o1, l1, l2, u1, u2, u3, u4, u5, u6, u7, n1, c_len, numV, ca_len, hexS_len, e1, hkl] at h) <;> (first | (exfalso; omega) | skip)))
  all_goals try exact Fini.mk rfl
  all_goals try (show commutes _ _ = true; kernel_rfl)
  all_goals try simp only [w1, wa, hk, wk, wl, wb, wn, wt, ws, c1, c2, c3, c4, u1, u2, u4, u6, Int.zero_sub, n1, hi]
  all_goals try first
    | exact D3 (by omega) (by unfold sm; omega) (by unfold sm; omega)
    | exact D2s (by omega) (by unfold sm; omega)
    | exact D2i (by omega) (by omega)
    | exact D1 (by simp) (by first | omega | (simp [ca_len, hexS_len]; omega))
    | exact ⟨⟨i64_0, by simp; omega⟩, i64_0, by simp; omega⟩
    | omega
    | (simp; omega)

end Go.Proofs.YtkkpjdgahdljbaaGreatDoor
end

section
namespace Go.Proofs.YtkkpjdgahdljbaaGreatDoor
open Go Go.Ab
set_option linter.unusedVariables false
set_option linter.unusedSimpArgs false
set_option maxRecDepth 100000
set_option maxHeartbeats 8000000

theorem cuts_c (s t : List UInt8) (a0 : Int) (k : Nat) (hs : s.length ≤ 300) (ht : t.length ≤ 300) (ha : 0 ≤ a0 ∧ a0 ≤ 65535) (hk : Int.tmod a0 ((s.length : Int) + 1) = k) (hk2 : k ≤ s.length) (i : Nat) (hi : Lib.index s t = i) (h0 : 0 < i) (hkl : k < s.length) : PC Tryz.prog GV 3 [.str s, .str t, .int .u16 a0] (.bool true) := by
  refine pc_fin E17_ok mixed (show Tryz.prog.funcs[3]? = some Tryz.f3 from rfl) ?_
  have w1 : IntKind.i64.wrap ((s.length : Int) + 1) = (s.length : Int) + 1 := wrap_id (by unfold i64; omega)
  have wa : IntKind.i64.wrap a0 = a0 := wrap_id (by unfold i64; omega)
  have wk : IntKind.i64.wrap ((k : Int) + 1) = (k : Int) + 1 := wrap_id (by unfold i64; omega)
  have wl : IntKind.i64.wrap ((s.length : Int) - k) = (s.length : Int) - k := wrap_id (by unfold i64; omega)
  have wb : IntKind.i64.wrap ((k : Int) - s.length) = (k : Int) - s.length := wrap_id (by unfold i64; omega)
  have wn : IntKind.i64.wrap (-(k : Int)) = -(k : Int) := wrap_id (by unfold i64; omega)
  have wt : IntKind.i64.wrap (t.length : Int) = (t.length : Int) := wrap_id (by unfold i64; omega)
  have ws : IntKind.i64.wrap (s.length : Int) = (s.length : Int) := wrap_id (by unfold i64; omega)
  have w2 : IntKind.i64.wrap (2 * (s.length : Int)) = 2 * (s.length : Int) := wrap_id (by unfold i64; omega)
  have c1 : call3 ⟨2, 0, s⟩ ⟨1, 1, []⟩ ⟨1, (k : Int), []⟩ = ⟨⟨2, 0, s.take k⟩, 0⟩ := by unfold call3; rw [intV_num, intV_num]; simp only; rw [cut3_take s k hk2]
  have c2 : call2 [115, 117, 98, 115, 116, 114] ⟨2, 0, s⟩ ⟨1, (k : Int) + 1, []⟩ = ⟨⟨2, 0, s.drop k⟩, 0⟩ := by unfold call2; rw [if_neg (by decide), intV_num]; simp only; rw [cut2_drop s k hk2]
  have c3 : call3 ⟨2, 0, s⟩ ⟨1, (k : Int) + 1, []⟩ ⟨1, -(k : Int), []⟩ = ⟨⟨2, 0, s.take k⟩, 0⟩ := by unfold call3; rw [intV_num, intV_num]; simp only; rw [cut3_back s k hk2]
  have c4 : call2 [115, 117, 98, 115, 116, 114] ⟨2, 0, s⟩ ⟨1, (k : Int) - s.length, []⟩ = ⟨⟨2, 0, cut2 s ((k : Int) - s.length)⟩, 0⟩ := by unfold call2; rw [if_neg (by decide), intV_num]
  have c5 : k < s.length → cut2 s ((k : Int) - s.length) = s.drop k := cut2_back s k
  have o1 : opR [124, 124] ⟨2, 0, s.take k⟩ ⟨2, 0, s.drop k⟩ = ⟨⟨2, 0, s⟩, 0⟩ := by
    rw [op_cat (by simp; omega) (by simp; omega) (by rw [List.take_append_drop]; omega), List.take_append_drop]
  have l1 : ((s.take k).length : Int) = k := by simp; omega
  have l2 : ((s.drop k).length : Int) = (s.length : Int) - k := by simp; omega
  have u1 := @c_up s (by omega)
  have u2 := @c_lo s (by omega)
  have u3 := @c_up (casedS 65 s) (by rw [ca_len]; omega)
  have u4 := @c_lo (casedS 97 s) (by rw [ca_len]; omega)
  have u5 := @c_up (casedS 97 s) (by rw [ca_len]; omega)
  have u6 := @c_hx s (by omega)
  have u7 := @c_up (hexS s) (by rw [hexS_len]; omega)
  rw [ca_ul] at u3
  rw [ca_uu] at u5
  rw [ca_hex] at u7
  have v4 : casedS 65 (casedS 97 s) = casedS 65 s := ca_lu s
  rw [v4] at u4
  have n1 := c_in s t
  rw [hi] at n1
  have e1 : Lib.contains s t = true := by unfold Lib.contains; rw [hi]; simp
  obtain ⟨hx1, hx2⟩ := index_take hi
  have m1 : call3 ⟨2, 0, s⟩ ⟨1, (i : Int) + 1, []⟩ ⟨1, (t.length : Int), []⟩ = ⟨⟨2, 0, t⟩, 0⟩ := by unfold call3; rw [intV_num, intV_num]; simp only; rw [cut3_mid s t i hi]
  have x1 : IntKind.i64.wrap ((i : Int) + 1) = (i : Int) + 1 := wrap_id (by unfold i64; omega)
  have x2 : IntKind.i64.wrap ((i : Int) + 1 - 2) = (i : Int) + 1 - 2 := wrap_id (by unfold i64; omega)
  have x3 : IntKind.i64.wrap ((i : Int) + 1 - 2 + t.length) = (i : Int) + 1 - 2 + t.length := wrap_id (by unfold i64; omega)
  have y1 : (i : Int) + 1 > 0 := by omega
  have y2 : (i : Int) + 1 > 1 := by omega
  have e2 : Lib.contains (s.take ((i : Int) + 1 - 2 + t.length).toNat) t = false := by
    rw [show ((i : Int) + 1 - 2 + t.length).toNat = i - 1 + t.length from by omega]; exact no_sooner hi h0
  have c5 := c5 hkl
  repeat' (refine BR.mk (fun h => ?_) (fun h => ?_) <;> first | contradiction | ((try simp [w1, wa, hk, wk, wl, wb, wn, wt, ws, w2, c1, c2, c3, c4, o1, l1, l2, u1, u2, u3, u4, u5, u6, u7, n1, c_len, numV, ca_len, hexS_len, e1, e2, m1, x1, x2, x3, y1, y2, h0, c5, hkl] at h) <;> (first | (exfalso; omega) | skip)))
  all_goals try exact Fini.mk rfl
  all_goals try (show commutes _ _ = true; kernel_rfl)
  all_goals try simp only [w1, wa, hk, wk, wl, wb, wn, wt, ws, c1, c2, c3, c4, u1, u2, u4, u6, Int.zero_sub, n1, hi, m1, x1, x2, x3]
  all_goals try first
    | exact D3 (by omega) (by unfold sm; omega) (by unfold sm; omega)
    | exact D2s (by omega) (by unfold sm; omega)
    | exact D2i (by omega) (by omega)
    | exact D1 (by simp) (by first | omega | (simp [ca_len, hexS_len]; omega))
    | exact ⟨⟨i64_0, by simp; omega⟩, i64_0, by simp; omega⟩
    | omega
    | (simp; omega)

end Go.Proofs.YtkkpjdgahdljbaaGreatDoor
end
