/- The package agg, tier 7: all texts, joined. -/
import Derived.Test.YtejepcnoflahkaaGreatDoorAM3
import Derived.Lib.Join
namespace Go.Proofs.YtejepcnoflahkaaGreatDoor
open Go Go.Ab
set_option linter.unusedVariables false
set_option linter.unusedSimpArgs false
set_option maxRecDepth 100000
set_option maxHeartbeats 8000000

theorem repSl {X : Cx} {n : Nat} {f : Nat → AV} {v : Value} (h : Rep X true (.sl .no n f) v) (hn : 0 < n) (hf : ∀ i, i < n → isStr (f i) = true) : ∃ b o c, v = .slice (some ⟨b, o, none⟩) n c ∧ n ≤ c ∧ b < X.w.heap.size ∧ ∀ j, j < n → X.w.cell? ⟨b, o + j, none⟩ = some (.string ⟨(strOf (f j)).toArray⟩) := by
  cases h with
  | snil f A h hz => omega
  | sl b o cap sz g hz hc hr hg ha ht =>
    have hg1 : ∀ j, j < n → g j = [.string ⟨(strOf (f j)).toArray⟩] := fun j hj => by
      have := hr j hj
      rw [isStr_eq (hf j hj)] at this
      obtain ⟨v, e, hv⟩ := repL1 this
      cases hv
      exact e
    have hsz : sz = 1 := by rw [← hg 0 hn, hg1 0 hn]; rfl
    subst hsz
    have hcell : ∀ j, j < n → X.w.cell? ⟨b, o + j, none⟩ = some (.string ⟨(strOf (f j)).toArray⟩) := fun j hj => by
      have := (ha j hj 0 (.string ⟨(strOf (f j)).toArray⟩) (by rw [hg1 j hj]; rfl)).1
      simpa using this
    exact ⟨b, o, cap, rfl, hc, cell_lt (hcell 0 hn), hcell⟩
def tO (n : Nat) (f : Nat → AV) : List (List UInt8) := (List.range n).map fun i => strOf (f i)
theorem tO_len (n : Nat) (f : Nat → AV) : (tO n f).length = n := by simp [tO]
theorem pc_join (tag : Tag) (n : Nat) (f : Nat → AV) (sep : List UInt8) (hn : 0 < n) (hn2 : n ≤ 1000000000) (hf : ∀ i, i < n → isStr (f i) = true) (hl : (Lib.join (tO n f) sep).length ≤ 140737488355328) :
    PC Tryz.prog GV 124 [.sl tag n f, .str sep] (.str (Lib.join (tO n f) sep)) := by
  intro w L cargs hg ha
  obtain ⟨v1, v2, rfl, h1, h2⟩ := repL2 ha
  cases h2
  obtain ⟨b, o, c, rfl, hc, hb, hcell⟩ := repSl (rep_tag h1) hn hf
  have e : ((tO n f).map fun s => (⟨s.toArray⟩ : ByteArray)).map (·.data.toList) = tO n f := by
    rw [List.map_map]
    exact List.map_id'' (fun _ => rfl) _
  have hx := Tryz.strings_Join b o c ((tO n f).map fun s => (⟨s.toArray⟩ : ByteArray)) ⟨sep.toArray⟩ w (fun j x hx => by
      rw [List.getElem?_map] at hx
      have hj : j < n := by
        have := (List.getElem?_eq_some_iff.1 (Option.map_eq_some_iff.1 hx).choose_spec.1).1
        rwa [tO_len] at this
      have h3 : (tO n f)[j]? = some (strOf (f j)) := by simp [tO, hj]
      rw [h3] at hx
      cases hx
      exact hcell j hj) hb (by rw [List.length_map, tO_len]; omega) (by rw [List.length_map, tO_len]; exact hc) (by rw [e]; exact hl)
  rw [e, List.length_map, tO_len] at hx
  refine hx.mono ?_
  rintro e w' ⟨rfl, hbl⟩
  exact ⟨_, fun b => if b < w.heap.size then L b else none, rfl, .str .., hbl, fun b hb => if_pos hb⟩
def h_join : List AV → CR
  | [.sl tag n f, .str sep] => .need (0 < n ∧ n ≤ 1000000000 ∧ (∀ i, i < n → isStr (f i) = true) ∧ (Lib.join (tO n f) sep).length ≤ 140737488355328) (.str (Lib.join (tO n f) sep))
  | _ => .no
theorem h_join_ok (xs : List AV) : CRok Tryz.prog GV 124 xs (h_join xs) := by
  unfold h_join
  split
  · rename_i tag n f sep
    exact fun hn => pc_join tag n f sep hn.1 hn.2.1 hn.2.2.1 hn.2.2.2
  · trivial
noncomputable def EB7 : Env := EB6.add 124 h_join
theorem EB7_ok : EnvOk Tryz.prog EB7 := Env.add_ok EB6_ok (by kernel_rfl) h_join_ok
theorem hc_values (n : Nat) (f : Nat → AV) : HC Tryz.prog GV 123 [.sl (.tok 0) n f] (St.small [] [(n, 34)]) (.clo 173 [] [.ptr 0 0]) (St.mk' 0 1 1 [] [(0, .cells [.sl (.tok 0) n f])] [(0, n, 34)]) := by
  refine hc_of EB7_ok mixed (show Tryz.prog.funcs[123]? = some Tryz.f123 from rfl) (Nat.le_of_ble_eq_true rfl) (Nat.le_of_ble_eq_true rfl) ?_
  refine Go.Ab.Left.mk (Nat.le_of_ble_eq_true rfl) ⟨[], fun _ _ => rfl, Wv.same rfl, Wk.mk' rfl rfl ⟨fun _ => rfl, fun _ => trivial⟩ trivial ?_⟩
  refine BR.mk (fun _ => ?_) fun _ => trivial
  exact ⟨Nat.le_of_ble_eq_true rfl, .inl ⟨rfl, _, rfl, .cons (Wv.sl rfl (fun _ _ => rfl) ⟨rfl, Nat.le_of_ble_eq_true rfl⟩) .nil⟩⟩
def h_values : List AV → St → Res
  | [.sl (.tok t) n f], m => .need (m.k t = some (n, 34)) (.clo 173 [] [.ptr m.nx 0])
      (m.within (St.small [] [(n, 34)]) (St.mk' 0 1 1 [] [(0, .cells [.sl (.tok 0) n f])] [(0, n, 34)]) [] [t])
  | _, _ => .fail
theorem h_values_ok (xs : List AV) (m : St) : HRok Tryz.prog GV 123 xs m (h_values xs m) := by
  unfold h_values
  split
  · rename_i t n f
    intro hk
    exact hc_small (hc_values n f) [] [t] (Nat.zero_le _) (Nat.le_of_ble_eq_true rfl) rfl (by simp) (by simp) trivial ⟨hk, trivial⟩
  · trivial
noncomputable def EB8 : Env := EB7.addH 123 h_values
theorem EB8_ok : EnvOk Tryz.prog EB8 := Env.addH_ok EB7_ok (by kernel_rfl) h_values_ok
noncomputable def h_sorted : List AV → St → Res
  | [.clo c [] [.ptr i 0], .clo c2 [] []], m => match m.h i with
    | some (.cells [.sl (.tok t) n f]) => @Res.need (c = 173 ∧ c2 = 53 ∧ m.k t = some (n, 34) ∧ n ≤ 1000 ∧ (∀ q, q < n → isV (f q) = true) ∧ ∀ x ∈ lO n f, right x = true) (Classical.propDecidable _) (.hs m.nx 0 n 3 none)
        (m.within (St.small [.cells [.sl (.tok 0) n f]] [(n, 34)]) (boxSt n f (sortV (lO n f))) [i] [t])
    | _ => .fail
  | _, _ => .fail
theorem h_sorted_ok (xs : List AV) (m : St) : HRok Tryz.prog GV 122 xs m (h_sorted xs m) := by
  unfold h_sorted
  split
  · rename_i c i c2
    split
    · rename_i t n f hi
      rintro ⟨rfl, rfl, hk, hn, hf, hr⟩
      exact hc_small (hc_sorted n f hn hf hr) [i] [t] (Nat.le_of_ble_eq_true rfl) (Nat.le_of_ble_eq_true rfl) rfl (by simp) (by simp) ⟨⟨rfl, _, hi, leB.refl _⟩, trivial⟩ ⟨hk, trivial⟩
    · trivial
  · trivial
noncomputable def EB9 : Env := EB8.addH 122 h_sorted
theorem EB9_ok : EnvOk Tryz.prog EB9 := Env.addH_ok EB8_ok (by kernel_rfl) h_sorted_ok

end Go.Proofs.YtejepcnoflahkaaGreatDoor
