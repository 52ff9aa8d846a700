/- Contracts of functions, tier 1: WRITTEN BY A SMALL PROGRAM of this session (gen.py). -/
import Derived.Lib.LaidTab
import Derived.Test.YtbpnnilocbgdbaaDoorVSpec
import Derived.Test.YtbpnnilocbgdbaaDoorAbTab
import Derived.Test.YtbpnnilocbgdbaaDoorChecked
import Derived.KernelRfl
namespace Go.Proofs.YtbpnnilocbgdbaaDoor
open Go Go.Ab
set_option linter.unusedVariables false
set_option linter.unusedSimpArgs false
set_option maxRecDepth 100000
set_option maxHeartbeats 4000000

/-- What every world of a call has: the library's variables as they are laid. -/
def GV (w : World) : Prop := (∃ m, w.cell? ⟨1, 0, none⟩ = some (.int .i64 m)) ∧ Lib.TabIs Tryd.prog w "internal/strconv.uint64pow10" .u64 Lib.pow10Tab
theorem tab_below {P : Program} {n : String} {g : Nat} {k : IntKind} {zs : List Int} {w w' : World} (hg : P.globalNamed n = some g) (h : Lib.TabIs P w n k zs) (hb : RowKit.Below w.heap.size w w') : Lib.TabIs P w' n k zs := by
  unfold Lib.TabIs World.var? at h ⊢
  rw [hg] at h ⊢
  simp only [Option.bind_some] at h ⊢
  have hlt : g < w.heap.size := by
    rcases Nat.lt_or_ge g w.heap.size with h' | h'
    · exact h'
    · rw [Array.getElem?_eq_none h'] at h; cases h
  rw [hb.block g hlt]
  exact h
theorem GV_s : ∀ w w', GV w → RowKit.Below w.heap.size w w' → GV w' := by
  rintro w w' ⟨⟨m, h1⟩, h2⟩ hb
  refine ⟨⟨m, ?_⟩, ?_⟩
  · rw [cell_congr (hb.block _ (cell_lt h1))]; exact h1
  · exact tab_below (g := 2) (by kernel_rfl) h2 hb
theorem mixed : Tryd.prog.follows .mixedOrders = true := Tryd.checked.mixed

theorem wrapI (n : Int) : IntKind.i64.wrap n = if n % 18446744073709551616 ≥ 9223372036854775808 then n % 18446744073709551616 - 18446744073709551616 else n % 18446744073709551616 := by
  simp [IntKind.wrap, IntKind.signed, IntKind.bits]
theorem wrapU (n : Int) : IntKind.u64.wrap n = n % 18446744073709551616 := by
  simp [IntKind.wrap, IntKind.signed, IntKind.bits]
theorem eqV (v w : V) : (v.k == w.k && (v.n == w.n && (v.s == w.s && true))) = decide (v = w) := by
  obtain ⟨a, b, c⟩ := v
  obtain ⟨d, e, f⟩ := w
  by_cases h1 : a = d <;> by_cases h2 : b = e <;> by_cases h3 : c = f <;> simp_all

def E0 : Env := Env.base Γ GV
theorem E0_ok : EnvOk Tryd.prog E0 := Env.base_ok Γ_ok GV_s

theorem pc_right (v : V) : PC Tryd.prog GV 34 [encV v] (.bool (right v)) := by
  refine pc_fin E0_ok mixed (show Tryd.prog.funcs[34]? = some Tryd.f34 from rfl) ?_
  unfold right
  repeat' (refine BR.mk (fun h => ?_) (fun h => ?_) <;> try contradiction)
  all_goals refine Fini.mk ?_
  all_goals simp_all
  all_goals omega

def h_right : List AV → CR
  | [.agg [.int .u8 vk, .int .i64 vn, .str vz]] => .yes (.bool (right ⟨vk, vn, vz⟩))
  | _ => .no
theorem h_right_ok (xs : List AV) : CRok Tryd.prog GV 34 xs (h_right xs) := by
  unfold h_right
  split
  · rename_i vk vn vz
    exact pc_right ⟨vk, vn, vz⟩
  · trivial

def h_size : List AV → CR
  | [.int .i64 n] => .need (i64 n) (.int .u64 n.natAbs)
  | _ => .no
def h_num : List AV → CR
  | [.int .i64 n] => .yes (.agg [.int .u8 1, .int .i64 n, .str []])
  | _ => .no
theorem pc_numL (n : Int) : PC Tryd.prog GV 45 [.int .i64 n] (.agg [.int .u8 1, .int .i64 n, .str []]) := by
  refine pc_fin E0_ok mixed (show Tryd.prog.funcs[45]? = some Tryd.f45 from rfl) ?_
  repeat' (refine BR.mk (fun h => ?_) (fun h => ?_) <;> try contradiction)
  all_goals exact Fini.mk rfl

def h_numL : List AV → CR
  | [.int .i64 n] => .yes (.agg [.int .u8 1, .int .i64 n, .str []])
  | _ => .no
theorem h_numL_ok (xs : List AV) : CRok Tryd.prog GV 45 xs (h_numL xs) := by
  unfold h_numL
  split
  · rename_i n
    exact pc_numL n
  · trivial

theorem pc_textL (s : List UInt8) : PC Tryd.prog GV 48 [.str s] (encV ⟨2, 0, s⟩) := by
  refine pc_fin E0_ok mixed (show Tryd.prog.funcs[48]? = some Tryd.f48 from rfl) ?_
  repeat' (refine BR.mk (fun h => ?_) (fun h => ?_) <;> try contradiction)
  all_goals exact Fini.mk rfl

def h_textL : List AV → CR
  | [.str s] => .yes (encV ⟨2, 0, s⟩)
  | _ => .no
theorem h_textL_ok (xs : List AV) : CRok Tryd.prog GV 48 xs (h_textL xs) := by
  unfold h_textL
  split
  · rename_i s
    exact pc_textL s
  · trivial

def h_blobL : List AV → CR
  | [.str s] => .yes (encV ⟨3, 0, s⟩)
  | _ => .no
def h_text : List AV → CR
  | [.str s] => .yes (encR (textR s))
  | _ => .no
theorem pc_nanK (n : Int) : PC Tryd.prog GV 96 [.int .u8 n] (.bool false) := by
  refine pc_fin E0_ok mixed (show Tryd.prog.funcs[96]? = some Tryd.f96 from rfl) ?_
  repeat' (refine BR.mk (fun h => ?_) (fun h => ?_) <;> try contradiction)
  all_goals refine Fini.mk ?_
  all_goals simp

def h_nanK : List AV → CR
  | [.int .u8 n] => .yes (.bool false)
  | _ => .no
theorem h_nanK_ok (xs : List AV) : CRok Tryd.prog GV 96 xs (h_nanK xs) := by
  unfold h_nanK
  split
  · rename_i n
    exact pc_nanK n
  · trivial

theorem pc_nanI (n : Int) : PC Tryd.prog GV 97 [.int .i64 n] (.bool false) := by
  refine pc_fin E0_ok mixed (show Tryd.prog.funcs[97]? = some Tryd.f97 from rfl) ?_
  repeat' (refine BR.mk (fun h => ?_) (fun h => ?_) <;> try contradiction)
  all_goals refine Fini.mk ?_
  all_goals simp

def h_nanI : List AV → CR
  | [.int .i64 n] => .yes (.bool false)
  | _ => .no
theorem h_nanI_ok (xs : List AV) : CRok Tryd.prog GV 97 xs (h_nanI xs) := by
  unfold h_nanI
  split
  · rename_i n
    exact pc_nanI n
  · trivial

def h_errs : List AV → CR
  | [.agg [.int .u8 vk, .int .i64 vn, .str vz], .int .i64 e, .int .i64 w] => .yes (.bool (decide (V.mk vk vn vz = null ∧ e = w)))
  | _ => .no
def E1_0 : Env := E0.add 34 h_right
theorem E1_0_ok : EnvOk Tryd.prog E1_0 := Env.add_ok E0_ok (by kernel_rfl) h_right_ok

def E1_1 : Env := E1_0
theorem E1_1_ok : EnvOk Tryd.prog E1_1 := E1_0_ok
def E1_2 : Env := E1_1
theorem E1_2_ok : EnvOk Tryd.prog E1_2 := E1_1_ok
def E1_3 : Env := E1_2.add 45 h_numL
theorem E1_3_ok : EnvOk Tryd.prog E1_3 := Env.add_ok E1_2_ok (by kernel_rfl) h_numL_ok

def E1_4 : Env := E1_3.add 48 h_textL
theorem E1_4_ok : EnvOk Tryd.prog E1_4 := Env.add_ok E1_3_ok (by kernel_rfl) h_textL_ok

def E1_5 : Env := E1_4
theorem E1_5_ok : EnvOk Tryd.prog E1_5 := E1_4_ok
def E1_6 : Env := E1_5
theorem E1_6_ok : EnvOk Tryd.prog E1_6 := E1_5_ok
def E1_7 : Env := E1_6.add 96 h_nanK
theorem E1_7_ok : EnvOk Tryd.prog E1_7 := Env.add_ok E1_6_ok (by kernel_rfl) h_nanK_ok

def E1_8 : Env := E1_7.add 97 h_nanI
theorem E1_8_ok : EnvOk Tryd.prog E1_8 := Env.add_ok E1_7_ok (by kernel_rfl) h_nanI_ok

def E1 : Env := E1_8
theorem E1_ok : EnvOk Tryd.prog E1 := E1_8_ok
end Go.Proofs.YtbpnnilocbgdbaaDoor
