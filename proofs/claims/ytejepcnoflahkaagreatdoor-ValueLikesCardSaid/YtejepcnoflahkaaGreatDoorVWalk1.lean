/- Contracts of functions, tier 1: WRITTEN BY A SMALL PROGRAM of this session (gen.py). -/
import Derived.Lib.LaidTab
import Derived.Test.YtejepcnoflahkaaGreatDoorVSpec
import Derived.Test.YtejepcnoflahkaaGreatDoorAbTab
import Derived.Test.YtejepcnoflahkaaGreatDoorChecked
import Derived.KernelRfl
namespace Go.Proofs.YtejepcnoflahkaaGreatDoor
open Go Go.Ab
set_option linter.unusedVariables false
set_option linter.unusedSimpArgs false
set_option maxRecDepth 100000
set_option maxHeartbeats 4000000

/-- What every world of a call has: the library's variables as they are laid. -/
def GV (w : World) : Prop := (∃ m, w.cell? ⟨0, 0, none⟩ = some (.int .i64 m)) ∧ Lib.TabIs Tryz.prog w "internal/strconv.uint64pow10" .u64 Lib.pow10Tab
theorem tab_below {P : Program} {n : String} {g : Nat} {k : IntKind} {zs : List Int} {w w' : World} (hg : P.globalNamed n = some g) (h : Lib.TabIs P w n k zs) (hb : RowKit.Below w.heap.size w w') : Lib.TabIs P w' n k zs := by
  unfold Lib.TabIs World.var? at h ⊢
  rw [hg] at h ⊢
  simp only [Option.bind_some] at h ⊢
  have hlt : g < w.heap.size := by
    rcases Nat.lt_or_ge g w.heap.size with h' | h'
    · exact h'
    · rw [Array.getElem?_eq_none h'] at h; cases h
  rw [hb.block g hlt]
  exact h
theorem GV_s : ∀ w w', GV w → RowKit.Below w.heap.size w w' → GV w' := by
  rintro w w' ⟨⟨m, h1⟩, h2⟩ hb
  refine ⟨⟨m, ?_⟩, ?_⟩
  · rw [cell_congr (hb.block _ (cell_lt h1))]; exact h1
  · exact tab_below (g := 5) (by kernel_rfl) h2 hb
theorem mixed : Tryz.prog.follows .mixedOrders = true := Tryz.checked.mixed

theorem wrapI (n : Int) : IntKind.i64.wrap n = if n % 18446744073709551616 ≥ 9223372036854775808 then n % 18446744073709551616 - 18446744073709551616 else n % 18446744073709551616 := by
  simp [IntKind.wrap, IntKind.signed, IntKind.bits]
theorem wrapU (n : Int) : IntKind.u64.wrap n = n % 18446744073709551616 := by
  simp [IntKind.wrap, IntKind.signed, IntKind.bits]
theorem eqV (v w : V) : (v.k == w.k && (v.n == w.n && (v.s == w.s && true))) = decide (v = w) := by
  obtain ⟨a, b, c⟩ := v
  obtain ⟨d, e, f⟩ := w
  by_cases h1 : a = d <;> by_cases h2 : b = e <;> by_cases h3 : c = f <;> simp_all

def E0 : Env := Env.base Γ GV
theorem E0_ok : EnvOk Tryz.prog E0 := Env.base_ok Γ_ok GV_s

theorem pc_right (v : V) : PC Tryz.prog GV 15 [encV v] (.bool (right v)) := by
  refine pc_fin E0_ok mixed (show Tryz.prog.funcs[15]? = some Tryz.f15 from rfl) ?_
  unfold right
  repeat' (refine BR.mk (fun h => ?_) (fun h => ?_) <;> try contradiction)
  all_goals refine Fini.mk ?_
  all_goals simp_all
  all_goals omega

def h_right : List AV → CR
  | [.agg [.int .u8 vk, .int .i64 vn, .str vz]] => .yes (.bool (right ⟨vk, vn, vz⟩))
  | _ => .no
theorem h_right_ok (xs : List AV) : CRok Tryz.prog GV 15 xs (h_right xs) := by
  unfold h_right
  split
  · rename_i vk vn vz
    exact pc_right ⟨vk, vn, vz⟩
  · trivial

theorem pc_size (n : Int) (hn : i64 n) : PC Tryz.prog GV 131 [.int .i64 n] (.int .u64 n.natAbs) := by
  refine pc_fin E0_ok mixed (show Tryz.prog.funcs[131]? = some Tryz.f131 from rfl) ?_
  unfold i64 at hn
  repeat' (refine BR.mk (fun h => ?_) (fun h => ?_) <;> try contradiction)
  all_goals refine Fini.mk ?_
  all_goals simp only [wrapU, decide_eq_true_eq, decide_eq_false_iff_not] at *
  all_goals congr 1
  all_goals omega

def h_size : List AV → CR
  | [.int .i64 n] => .need (i64 n) (.int .u64 n.natAbs)
  | _ => .no
theorem h_size_ok (xs : List AV) : CRok Tryz.prog GV 131 xs (h_size xs) := by
  unfold h_size
  split
  · rename_i n
    exact fun hn => pc_size n hn
  · trivial

theorem pc_num (n : Int) : PC Tryz.prog GV 81 [.int .i64 n] (.agg [.int .u8 1, .int .i64 n, .str []]) := by
  refine pc_fin E0_ok mixed (show Tryz.prog.funcs[81]? = some Tryz.f81 from rfl) ?_
  repeat' (refine BR.mk (fun h => ?_) (fun h => ?_) <;> try contradiction)
  all_goals exact Fini.mk rfl

def h_num : List AV → CR
  | [.int .i64 n] => .yes (.agg [.int .u8 1, .int .i64 n, .str []])
  | _ => .no
theorem h_num_ok (xs : List AV) : CRok Tryz.prog GV 81 xs (h_num xs) := by
  unfold h_num
  split
  · rename_i n
    exact pc_num n
  · trivial

theorem pc_numL (n : Int) : PC Tryz.prog GV 79 [.int .i64 n] (.agg [.int .u8 1, .int .i64 n, .str []]) := by
  refine pc_fin E0_ok mixed (show Tryz.prog.funcs[79]? = some Tryz.f79 from rfl) ?_
  repeat' (refine BR.mk (fun h => ?_) (fun h => ?_) <;> try contradiction)
  all_goals exact Fini.mk rfl

def h_numL : List AV → CR
  | [.int .i64 n] => .yes (.agg [.int .u8 1, .int .i64 n, .str []])
  | _ => .no
theorem h_numL_ok (xs : List AV) : CRok Tryz.prog GV 79 xs (h_numL xs) := by
  unfold h_numL
  split
  · rename_i n
    exact pc_numL n
  · trivial

theorem pc_textL (s : List UInt8) : PC Tryz.prog GV 72 [.str s] (encV ⟨2, 0, s⟩) := by
  refine pc_fin E0_ok mixed (show Tryz.prog.funcs[72]? = some Tryz.f72 from rfl) ?_
  repeat' (refine BR.mk (fun h => ?_) (fun h => ?_) <;> try contradiction)
  all_goals exact Fini.mk rfl

def h_textL : List AV → CR
  | [.str s] => .yes (encV ⟨2, 0, s⟩)
  | _ => .no
theorem h_textL_ok (xs : List AV) : CRok Tryz.prog GV 72 xs (h_textL xs) := by
  unfold h_textL
  split
  · rename_i s
    exact pc_textL s
  · trivial

theorem pc_blobL (s : List UInt8) : PC Tryz.prog GV 102 [.str s] (encV ⟨3, 0, s⟩) := by
  refine pc_fin E0_ok mixed (show Tryz.prog.funcs[102]? = some Tryz.f102 from rfl) ?_
  repeat' (refine BR.mk (fun h => ?_) (fun h => ?_) <;> try contradiction)
  all_goals exact Fini.mk rfl

def h_blobL : List AV → CR
  | [.str s] => .yes (encV ⟨3, 0, s⟩)
  | _ => .no
theorem h_blobL_ok (xs : List AV) : CRok Tryz.prog GV 102 xs (h_blobL xs) := by
  unfold h_blobL
  split
  · rename_i s
    exact pc_blobL s
  · trivial

theorem pc_text (s : List UInt8) : PC Tryz.prog GV 68 [.str s] (encR (textR s)) := by
  refine pc_fin E0_ok mixed (show Tryz.prog.funcs[68]? = some Tryz.f68 from rfl) ?_
  repeat' (refine BR.mk (fun h => ?_) (fun h => ?_) <;> try contradiction)
  all_goals refine Fini.mk ?_
  all_goals simp only [textR, decide_eq_true_eq, decide_eq_false_iff_not] at *
  · rw [if_pos (by omega)]; rfl
  · rw [if_neg (by omega)]; rfl

def h_text : List AV → CR
  | [.str s] => .yes (encR (textR s))
  | _ => .no
theorem h_text_ok (xs : List AV) : CRok Tryz.prog GV 68 xs (h_text xs) := by
  unfold h_text
  split
  · rename_i s
    exact pc_text s
  · trivial

theorem pc_nanK (n : Int) : PC Tryz.prog GV 168 [.int .u8 n] (.bool false) := by
  refine pc_fin E0_ok mixed (show Tryz.prog.funcs[168]? = some Tryz.f168 from rfl) ?_
  repeat' (refine BR.mk (fun h => ?_) (fun h => ?_) <;> try contradiction)
  all_goals refine Fini.mk ?_
  all_goals simp

def h_nanK : List AV → CR
  | [.int .u8 n] => .yes (.bool false)
  | _ => .no
theorem h_nanK_ok (xs : List AV) : CRok Tryz.prog GV 168 xs (h_nanK xs) := by
  unfold h_nanK
  split
  · rename_i n
    exact pc_nanK n
  · trivial

theorem pc_nanI (n : Int) : PC Tryz.prog GV 169 [.int .i64 n] (.bool false) := by
  refine pc_fin E0_ok mixed (show Tryz.prog.funcs[169]? = some Tryz.f169 from rfl) ?_
  repeat' (refine BR.mk (fun h => ?_) (fun h => ?_) <;> try contradiction)
  all_goals refine Fini.mk ?_
  all_goals simp

def h_nanI : List AV → CR
  | [.int .i64 n] => .yes (.bool false)
  | _ => .no
theorem h_nanI_ok (xs : List AV) : CRok Tryz.prog GV 169 xs (h_nanI xs) := by
  unfold h_nanI
  split
  · rename_i n
    exact pc_nanI n
  · trivial

theorem pc_errs (v : V) (e w : Int) : PC Tryz.prog GV 27 [encV v, .int .i64 e, .int .i64 w] (.bool (decide (v = null ∧ e = w))) := by
  refine pc_fin E0_ok mixed (show Tryz.prog.funcs[27]? = some Tryz.f27 from rfl) ?_
  repeat' (refine BR.mk (fun h => ?_) (fun h => ?_) <;> try contradiction)
  all_goals refine Fini.mk ?_
  · have h2 : e = w := by simpa using h
    subst h2
    have h3 := eqV v null
    exact congrArg AV.bool (h3.trans (by simp))
  · have h2 : e ≠ w := by simpa using h
    simp [h2]

def h_errs : List AV → CR
  | [.agg [.int .u8 vk, .int .i64 vn, .str vz], .int .i64 e, .int .i64 w] => .yes (.bool (decide (V.mk vk vn vz = null ∧ e = w)))
  | _ => .no
theorem h_errs_ok (xs : List AV) : CRok Tryz.prog GV 27 xs (h_errs xs) := by
  unfold h_errs
  split
  · rename_i vk vn vz e w
    exact pc_errs ⟨vk, vn, vz⟩ e w
  · trivial

def E1_0 : Env := E0.add 15 h_right
theorem E1_0_ok : EnvOk Tryz.prog E1_0 := Env.add_ok E0_ok (by kernel_rfl) h_right_ok

def E1_1 : Env := E1_0.add 131 h_size
theorem E1_1_ok : EnvOk Tryz.prog E1_1 := Env.add_ok E1_0_ok (by kernel_rfl) h_size_ok

def E1_2 : Env := E1_1.add 81 h_num
theorem E1_2_ok : EnvOk Tryz.prog E1_2 := Env.add_ok E1_1_ok (by kernel_rfl) h_num_ok

def E1_3 : Env := E1_2.add 79 h_numL
theorem E1_3_ok : EnvOk Tryz.prog E1_3 := Env.add_ok E1_2_ok (by kernel_rfl) h_numL_ok

def E1_4 : Env := E1_3.add 72 h_textL
theorem E1_4_ok : EnvOk Tryz.prog E1_4 := Env.add_ok E1_3_ok (by kernel_rfl) h_textL_ok

def E1_5 : Env := E1_4.add 102 h_blobL
theorem E1_5_ok : EnvOk Tryz.prog E1_5 := Env.add_ok E1_4_ok (by kernel_rfl) h_blobL_ok

def E1_6 : Env := E1_5.add 68 h_text
theorem E1_6_ok : EnvOk Tryz.prog E1_6 := Env.add_ok E1_5_ok (by kernel_rfl) h_text_ok

def E1_7 : Env := E1_6.add 168 h_nanK
theorem E1_7_ok : EnvOk Tryz.prog E1_7 := Env.add_ok E1_6_ok (by kernel_rfl) h_nanK_ok

def E1_8 : Env := E1_7.add 169 h_nanI
theorem E1_8_ok : EnvOk Tryz.prog E1_8 := Env.add_ok E1_7_ok (by kernel_rfl) h_nanI_ok

def E1 : Env := E1_8.add 27 h_errs
theorem E1_ok : EnvOk Tryz.prog E1 := Env.add_ok E1_8_ok (by kernel_rfl) h_errs_ok

end Go.Proofs.YtejepcnoflahkaaGreatDoor
