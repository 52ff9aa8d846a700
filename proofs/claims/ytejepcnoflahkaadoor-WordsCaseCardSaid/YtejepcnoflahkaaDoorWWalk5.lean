/- words: found. -/
import Derived.Test.YtejepcnoflahkaaDoorWWalk4
namespace Go.Proofs.YtejepcnoflahkaaDoor
open Go Go.Ab Go.RowKit
set_option linter.unusedVariables false
set_option linter.unusedSimpArgs false
set_option maxRecDepth 100000
set_option maxHeartbeats 4000000

theorem CRok.str {P : Program} {G G' : World → Prop} (hg : ∀ w, G' w → G w) {f : Nat} {xs : List AV} {c : CR} (h : CRok P G f xs c) : CRok P G' f xs c := by
  cases c with
  | no => trivial
  | yes r => exact PC.str hg h
  | need C r => exact fun c => PC.str hg (h c)
def EW8a : Env := EW8.add 39 h_index
theorem EW8a_ok : EnvOk Tryd.prog EW8a := Env.add_ok EW8_ok (by kernel_rfl) (fun xs => CRok.str (fun _ h => h.1) (h_index_ok xs))
set_option smartUnfolding false in
theorem pc_ctnS0 (n : Nat) (f : Nat → List UInt8) (s : List UInt8) (hn : n ≤ 9223372036854775807) : PC Tryd.prog GW 27 [.sl .no n (fun i => .str (f i)), .str s] (.bool (decide (findF s f 0 n ≥ 0))) := by
  refine pc_fin EW8a_ok mixed (show Tryd.prog.funcs[27]? = some Tryd.f27 from rfl) ?_
  repeat' (refine BR.mk (fun h => ?_) (fun h => ?_) <;> try contradiction)
  all_goals first | exact ⟨hn, fun _ _ => rfl⟩ | exact Fini.mk rfl | skip
theorem pc_ctnS (tag : Tag) (n : Nat) (f : Nat → AV) (s : List UInt8) (hn : n ≤ 9223372036854775807 ∧ ∀ i, i < n → isStr (f i) = true) : PC Tryd.prog GW 27 [.sl tag n f, .str s] (.bool (decide (findF s (fun i => strOf (f i)) 0 n ≥ 0))) := by
  refine pc_args ?_ (pc_ctnS0 n (fun i => strOf (f i)) s hn.1)
  intro X vs h
  cases h with | cons h hs => exact .cons (rep_slice (fun i hi => isStr_eq (hn.2 i hi)) (rep_tag h)) hs
def h_ctnS : List AV → CR
  | [.sl tag n f, .str s] => .need (n ≤ 9223372036854775807 ∧ ∀ i, i < n → isStr (f i) = true) (.bool (decide (findF s (fun i => strOf (f i)) 0 n ≥ 0)))
  | _ => .no
theorem h_ctnS_ok (xs : List AV) : CRok Tryd.prog GW 27 xs (h_ctnS xs) := by
  unfold h_ctnS
  split
  · rename_i tag n f s
    exact fun hn => pc_ctnS tag n f s hn
  · trivial
def EW8b : Env := EW8a.add 27 h_ctnS
theorem EW8b_ok : EnvOk Tryd.prog EW8b := Env.add_ok EW8a_ok (by kernel_rfl) h_ctnS_ok
def h_low : List AV → CR
  | [.str s] => .need (s.length ≤ 65536 ∧ s.all (fun b => decide (b.toNat < 128)) = true) (.str (Lib.toLowerA s))
  | _ => .no
theorem h_low_ok (xs : List AV) : CRok Tryd.prog GW 26 xs (h_low xs) := by
  unfold h_low
  split
  · rename_i s
    exact fun hn => pc_low s hn
  · trivial
def EW8c : Env := EW8b.add 26 h_low
theorem EW8c_ok : EnvOk Tryd.prog EW8c := Env.add_ok EW8b_ok (by kernel_rfl) h_low_ok
def h_keys : List AV → CR
  | [.str s] => .need (s = keysT) (.sl .no 40 keyF)
  | _ => .no
theorem h_keys_ok (xs : List AV) : CRok Tryd.prog GW 28 xs (h_keys xs) := by
  unfold h_keys
  split
  · rename_i s
    rintro rfl
    exact pc_keys
  · trivial
def EW9 : Env := EW8c.add 28 h_keys
theorem EW9_ok : EnvOk Tryd.prog EW9 := Env.add_ok EW8c_ok (by kernel_rfl) h_keys_ok
def piOk (s : List UInt8) : Bool := match Lib.parseIntB 64 s with
  | .ok v => v == (decN 0 s : Nat)
  | _ => false
def piR (s : List UInt8) : Bool := match Lib.parseIntB 64 s with
  | .range => true
  | _ => false
def h_piOk : List AV → CR
  | [.str s, .int .i64 a, .int .i64 b] => .need ((a = 10 ∧ b = 64) ∧ s.length ≤ 65536 ∧ piOk s = true) (.tup [.int .i64 (decN 0 s : Nat), .nili])
  | _ => .no
theorem h_piOk_ok (xs : List AV) : CRok Tryd.prog GW 23 xs (h_piOk xs) := by
  unfold h_piOk
  split
  · rename_i s a b
    rintro ⟨⟨rfl, rfl⟩, h2, h3⟩
    unfold piOk at h3
    split at h3
    · rename_i v e
      rw [← eq_of_beq h3]
      exact pc_pi_ok s v e h2
    · cases h3
  · trivial
def EWok : Env := EW9.add 23 h_piOk
theorem EWok_ok : EnvOk Tryd.prog EWok := Env.add_ok EW9_ok (by kernel_rfl) h_piOk_ok
def h_piR : List AV → CR
  | [.str s, .int .i64 a, .int .i64 b] => .need ((a = 10 ∧ b = 64) ∧ s.length ≤ 65536 ∧ piR s = true) (.tup [.int .i64 (Lib.intSat 64 s), .ifc 85 .any])
  | _ => .no
theorem h_piR_ok (xs : List AV) : CRok Tryd.prog GW 23 xs (h_piR xs) := by
  unfold h_piR
  split
  · rename_i s a b
    rintro ⟨⟨rfl, rfl⟩, h2, h3⟩
    unfold piR at h3
    split at h3
    · rename_i e
      exact pc_pi_range s e h2
    · cases h3
  · trivial
def EWr : Env := EW9.add 23 h_piR
theorem EWr_ok : EnvOk Tryd.prog EWr := Env.add_ok EW9_ok (by kernel_rfl) h_piR_ok
def encT (t : Tk) : AV := .tup [.agg [.int .u8 t.k, .str t.s, .int .i64 t.n, .int .i64 0, .int .i64 0], .int .i64 (t.l : Nat)]
end Go.Proofs.YtejepcnoflahkaaDoor
