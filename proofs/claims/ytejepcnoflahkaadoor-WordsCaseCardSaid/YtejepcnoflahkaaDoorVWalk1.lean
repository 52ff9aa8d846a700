/- Contracts of functions, tier 1: WRITTEN BY A SMALL PROGRAM of this session (gen.py). -/
import Derived.Lib.LaidTab
import Derived.Test.YtejepcnoflahkaaDoorVSpec
import Derived.Test.YtejepcnoflahkaaDoorAbTab
import Derived.Test.YtejepcnoflahkaaDoorChecked
import Derived.KernelRfl
namespace Go.Proofs.YtejepcnoflahkaaDoor
open Go Go.Ab
set_option linter.unusedVariables false
set_option linter.unusedSimpArgs false
set_option maxRecDepth 100000
set_option maxHeartbeats 4000000

/-- What every world of a call has: the library's variables as they are laid. -/
def GV (w : World) : Prop := (∃ m, w.cell? ⟨5, 0, none⟩ = some (.int .i64 m)) ∧ Lib.TabIs Tryd.prog w "internal/strconv.uint64pow10" .u64 Lib.pow10Tab
theorem tab_below {P : Program} {n : String} {g : Nat} {k : IntKind} {zs : List Int} {w w' : World} (hg : P.globalNamed n = some g) (h : Lib.TabIs P w n k zs) (hb : RowKit.Below w.heap.size w w') : Lib.TabIs P w' n k zs := by
  unfold Lib.TabIs World.var? at h ⊢
  rw [hg] at h ⊢
  simp only [Option.bind_some] at h ⊢
  have hlt : g < w.heap.size := by
    rcases Nat.lt_or_ge g w.heap.size with h' | h'
    · exact h'
    · rw [Array.getElem?_eq_none h'] at h; cases h
  rw [hb.block g hlt]
  exact h
theorem GV_s : ∀ w w', GV w → RowKit.Below w.heap.size w w' → GV w' := by
  rintro w w' ⟨⟨m, h1⟩, h2⟩ hb
  refine ⟨⟨m, ?_⟩, ?_⟩
  · rw [cell_congr (hb.block _ (cell_lt h1))]; exact h1
  · exact tab_below (g := 8) (by kernel_rfl) h2 hb
theorem mixed : Tryd.prog.follows .mixedOrders = true := Tryd.checked.mixed

theorem wrapI (n : Int) : IntKind.i64.wrap n = if n % 18446744073709551616 ≥ 9223372036854775808 then n % 18446744073709551616 - 18446744073709551616 else n % 18446744073709551616 := by
  simp [IntKind.wrap, IntKind.signed, IntKind.bits]
theorem wrapU (n : Int) : IntKind.u64.wrap n = n % 18446744073709551616 := by
  simp [IntKind.wrap, IntKind.signed, IntKind.bits]
theorem eqV (v w : V) : (v.k == w.k && (v.n == w.n && (v.s == w.s && true))) = decide (v = w) := by
  obtain ⟨a, b, c⟩ := v
  obtain ⟨d, e, f⟩ := w
  by_cases h1 : a = d <;> by_cases h2 : b = e <;> by_cases h3 : c = f <;> simp_all

def E0 : Env := Env.base Γ GV
theorem E0_ok : EnvOk Tryd.prog E0 := Env.base_ok Γ_ok GV_s

def h_right : List AV → CR
  | [.agg [.int .u8 vk, .int .i64 vn, .str vz]] => .yes (.bool (right ⟨vk, vn, vz⟩))
  | _ => .no
def h_size : List AV → CR
  | [.int .i64 n] => .need (i64 n) (.int .u64 n.natAbs)
  | _ => .no
def h_num : List AV → CR
  | [.int .i64 n] => .yes (.agg [.int .u8 1, .int .i64 n, .str []])
  | _ => .no
def h_numL : List AV → CR
  | [.int .i64 n] => .yes (.agg [.int .u8 1, .int .i64 n, .str []])
  | _ => .no
def h_textL : List AV → CR
  | [.str s] => .yes (encV ⟨2, 0, s⟩)
  | _ => .no
def h_blobL : List AV → CR
  | [.str s] => .yes (encV ⟨3, 0, s⟩)
  | _ => .no
def h_text : List AV → CR
  | [.str s] => .yes (encR (textR s))
  | _ => .no
def h_nanK : List AV → CR
  | [.int .u8 n] => .yes (.bool false)
  | _ => .no
def h_nanI : List AV → CR
  | [.int .i64 n] => .yes (.bool false)
  | _ => .no
def h_errs : List AV → CR
  | [.agg [.int .u8 vk, .int .i64 vn, .str vz], .int .i64 e, .int .i64 w] => .yes (.bool (decide (V.mk vk vn vz = null ∧ e = w)))
  | _ => .no
def E1_0 : Env := E0
theorem E1_0_ok : EnvOk Tryd.prog E1_0 := E0_ok
def E1_1 : Env := E1_0
theorem E1_1_ok : EnvOk Tryd.prog E1_1 := E1_0_ok
def E1_2 : Env := E1_1
theorem E1_2_ok : EnvOk Tryd.prog E1_2 := E1_1_ok
def E1_3 : Env := E1_2
theorem E1_3_ok : EnvOk Tryd.prog E1_3 := E1_2_ok
def E1_4 : Env := E1_3
theorem E1_4_ok : EnvOk Tryd.prog E1_4 := E1_3_ok
def E1_5 : Env := E1_4
theorem E1_5_ok : EnvOk Tryd.prog E1_5 := E1_4_ok
def E1_6 : Env := E1_5
theorem E1_6_ok : EnvOk Tryd.prog E1_6 := E1_5_ok
def E1_7 : Env := E1_6
theorem E1_7_ok : EnvOk Tryd.prog E1_7 := E1_6_ok
def E1_8 : Env := E1_7
theorem E1_8_ok : EnvOk Tryd.prog E1_8 := E1_7_ok
def E1 : Env := E1_8
theorem E1_ok : EnvOk Tryd.prog E1 := E1_8_ok
end Go.Proofs.YtejepcnoflahkaaDoor
