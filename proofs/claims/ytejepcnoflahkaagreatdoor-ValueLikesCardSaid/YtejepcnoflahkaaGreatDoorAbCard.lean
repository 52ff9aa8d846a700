/- From a contract of the evaluator to the claim's form: how arguments that read as data stand for abstract values, and what is left behind the call. -/
import Derived.Test.YtejepcnoflahkaaGreatDoorAbRun
import Derived.ProofKit
import Derived.OpenShut
import Derived.WideKeyArgs
import Derived.Deep.DeepHandedRow
import Derived.Deep.Strs
import Derived.Lib.LaidTab
import Derived.LaidSub
import Derived.ChangeCalls
namespace Go.Ab
open Go.ChangeShapes Go.WideShapes Go.ChangeAt Go.RowKit
set_option linter.unusedVariables false
set_option linter.unusedSectionVars false

section
variable {H : Type} {enc : TypeId × Value → H} {P : Program}

/-! ### Data as abstract values -/
def atF (l : List AV) (i : Nat) : AV := l.getD i .any
mutual
def avD : DataW H → AV
  | .lit l => match l with
    | .int k n => .int k n
    | .bool b => .bool b
    | .string s => .str s
    | _ => .any
  | .nil => .sl .no 0 (atF [])
  | .slice es _ => .sl .no es.length (atF (avDL es))
  | .agg ds => .agg (avDC ds)
  | _ => .any
def avDL : List (DataW H) → List AV
  | [] => []
  | d :: ds => avD d :: avDL ds
def avDC : List (DataW H) → List AV
  | [] => []
  | d :: ds => (avD d).cells ++ avDC ds
end
theorem avDL_map : ∀ l : List (DataW H), avDL l = l.map avD
  | [] => rfl
  | d :: l => by rw [avDL, avDL_map l]; rfl

/-- fields that stand one behind the other -/
def contig (P : Program) : Nat → List Field → Nat → Bool
  | off, [], e => Nat.beq off e
  | off, f :: fs, e => Nat.beq f.offset off && contig P (off + P.cellsOf f.type) fs e
/-- types that hold plain data alone -/
def plainStep (P : Program) (S : List TypeId) (t : TypeId) : Bool :=
  match P.underlying t with
  | some .bool => true
  | some (.int _) => true
  | some .string => true
  | some (.struct fs) => contig P 0 fs.toList (P.cellsOf t) && fs.toList.all fun f => S.contains f.type
  | some (.slice e) => S.contains e && Nat.blt 0 (P.cellsOf e)
  | _ => false
def plainTys (P : Program) (S : List TypeId) : Bool := S.all (plainStep P S)

theorem contig_le {P : Program} : ∀ {fs : List Field} {off e : Nat}, contig P off fs e = true → off ≤ e
  | [], off, e, h => by simp only [contig] at h; exact Nat.le_of_eq (Nat.eq_of_beq_eq_true h)
  | f :: fs, off, e, h => by
    simp only [contig, Bool.and_eq_true] at h
    have := contig_le h.2
    omega
theorem fields_rep {X : Cx} {cs : List Value} : ∀ {fs : List Field} {xs : List (DataW H × List MemPlace)} {off e : Nat}, contig P off fs e = true → xs.length = fs.length →
    (∀ (i : Nat) f, fs[i]? = some f → ∃ y, xs[i]? = some y ∧ RepL X true (avD y.1).cells ((cs.drop f.offset).take (P.cellsOf f.type))) → RepL X true (avDC (xs.map (·.1))) ((cs.drop off).take (e - off))
  | [], xs, off, e, hc, hl, h => by
    have : xs = [] := List.eq_nil_of_length_eq_zero (by simpa using hl)
    subst this
    simp only [contig] at hc
    have := Nat.eq_of_beq_eq_true hc
    subst this
    simp [avDC]
    exact .nil
  | f :: fs, [], off, e, hc, hl, h => by simp at hl
  | f :: fs, x :: xs, off, e, hc, hl, h => by
    simp only [contig, Bool.and_eq_true] at hc
    obtain ⟨h1, h2⟩ := hc
    have ho := Nat.eq_of_beq_eq_true h1
    have hle := contig_le h2
    obtain ⟨y, hy, hr⟩ := h 0 f rfl
    simp only [List.getElem?_cons_zero, Option.some.injEq] at hy
    subst hy
    have ih := fields_rep (cs := cs) (X := X) h2 (by simpa using hl) (fun i g hg => by simpa using h (i + 1) g (by simpa using hg))
    rw [ho] at hr
    have := hr.append ih
    simp only [List.map_cons, avDC]
    have e1 : e - off = P.cellsOf f.type + (e - (off + P.cellsOf f.type)) := by omega
    rw [e1, List.take_add, List.drop_drop]
    exact this

/-- a slice -/
theorem rep_of_slice {w : World} {base : Nat} {a : Addr} {len cap sz : Nat} {l : List AV} (hz : 0 < sz) (hl : len ≤ cap) (hlen : l.length = len)
    (h : ∀ i, i < len → ∃ cs, w.cells? base (a.add (i * sz)) sz = some cs ∧ RepL (Cx.bare w fun _ => none) true (l.getD i .any).cells cs) (hsp : len = 0 → 0 < cap → ∃ cs, w.cells? base (a.add 0) sz = some cs) :
    Rep (Cx.bare w fun _ => none) true (.sl .no len (atF l)) (.slice (some a) len cap) := by
  by_cases hc : cap = 0
  · subst hc
    obtain rfl : len = 0 := by omega
    exact .snil _ _ trivial (fun h => by cases h)
  have hspot : ∃ b o, a = ⟨b, o, none⟩ := by
    have : ∃ cs, w.cells? base (a.add 0) sz = some cs := by
      by_cases h0 : len = 0
      · exact hsp h0 (by omega)
      · obtain ⟨cs, h1, _⟩ := h 0 (by omega)
        rw [Nat.zero_mul] at h1
        exact ⟨cs, h1⟩
    obtain ⟨cs, hcs⟩ := this
    obtain ⟨_, k2, k3⟩ := World.cells?_some hcs
    have k := k3 0 hz
    have e0 : cs[0]? = some (cs[0]'(by omega)) := List.getElem?_eq_getElem (by omega)
    rw [e0] at k
    obtain ⟨b, o, s⟩ := a
    cases s with
    | none => exact ⟨b, o, rfl⟩
    | some s =>
      exfalso
      simp only [Addr.add, if_true] at k
      unfold World.cell? at k
      simp at k
      split at k <;> cases k
  obtain ⟨b, o, rfl⟩ := hspot
  have hg : ∀ i, i < len → ∃ cs, w.cells? base (Addr.add ⟨b, o, none⟩ (i * sz)) sz = some cs ∧ RepL (Cx.bare w fun _ => none) true (atF l i).cells cs := h
  let g : Nat → List Value := fun i => (w.cells? base (Addr.add ⟨b, o, none⟩ (i * sz)) sz).getD []
  have gi : ∀ i, i < len → w.cells? base (Addr.add ⟨b, o, none⟩ (i * sz)) sz = some (g i) := fun i hi => by
    obtain ⟨cs, h1, _⟩ := hg i hi
    show _ = some ((w.cells? base (Addr.add ⟨b, o, none⟩ (i * sz)) sz).getD [])
    rw [h1]; rfl
  have adr : ∀ n m, (Addr.add (Addr.add ⟨b, o, none⟩ n) m) = ⟨b, o + n + m, none⟩ := fun n m => by
    unfold Addr.add
    by_cases h1 : n = 0 <;> by_cases h2 : m = 0 <;> simp [h1, h2]
  refine .sl b o cap sz g hz hl (fun i hi => ?_) (fun i hi => ?_) (fun i hi j v hv => ?_) trivial
  · obtain ⟨cs, h1, h2⟩ := hg i hi
    rw [gi i hi] at h1
    injection h1 with h1
    rw [h1]; exact h2
  · exact (World.cells?_some (gi i hi)).2.1
  · obtain ⟨_, k2, k3⟩ := World.cells?_some (gi i hi)
    have hj : j < sz := by rw [← k2]; exact (List.getElem?_eq_some_iff.1 hv).1
    have := k3 j hj
    rw [adr, hv] at this
    exact ⟨this, fun n hn => by cases hn⟩

theorem rep_of_trod {S : List TypeId} (hS : plainTys P S = true) {w : World} {base : Nat} {held : Bool} : ∀ (fuel : Nat) (t : TypeId) (cs : List Value) (x : DataW H × List MemPlace), t ∈ S →
    DataW.trod enc P w base (fun _ => true) held fuel t cs = some x → RepL (Cx.bare w fun _ => none) true (avD x.1).cells cs
  | fuel, t, cs, x, ht, h => by
    have hst : plainStep P S t = true := List.all_eq_true.1 hS t ht
    unfold plainStep at hst
    split at hst
    · rename_i hu
      obtain ⟨b, rfl, rfl⟩ := DataW.trod_bool hu h
      exact .cons (.bool ..) .nil
    · rename_i k hu
      obtain ⟨n, rfl, rfl, _⟩ := DataW.trod_int hu h
      exact .cons (.int ..) .nil
    · rename_i hu
      obtain ⟨s, rfl, rfl, _⟩ := DataW.trod_string hu h
      exact .cons (.str _ _) .nil
    · rename_i fs hu
      obtain ⟨xs, n, rfl, rfl, hl, hlen, hf⟩ := DataW.trod_struct hu h
      simp only [Bool.and_eq_true] at hst
      obtain ⟨hc, hall⟩ := hst
      have := fields_rep (H := H) (P := P) (X := Cx.bare w fun _ => none) (cs := cs) (fs := fs.toList) (xs := xs) (off := 0) (e := P.cellsOf t) hc (by simpa using hlen) (fun i f hi => by
        have hi' : fs[i]? = some f := by simpa using hi
        have hx := hf i f hi'
        have hlt : i < xs.length := by rw [hlen]; exact (Array.getElem?_eq_some_iff.1 hi').1
        refine ⟨xs[i], by simp [hlt], ?_⟩
        have hm : f.type ∈ S := by
          have := List.all_eq_true.1 hall f (List.mem_of_getElem? hi)
          simpa using this
        exact rep_of_trod hS n f.type _ xs[i] hm (by rw [hx]; simp [hlt]))
      rw [List.drop_zero, Nat.sub_zero, ← hl, List.take_length] at this
      exact this
    · rename_i e hu
      simp only [Bool.and_eq_true] at hst
      obtain ⟨he, hz⟩ := hst
      have hz' : 0 < P.cellsOf e := by simpa [Nat.blt_eq] using hz
      have he' : e ∈ S := by simpa using he
      rcases DataW.trod_slice hu h with ⟨rfl, rfl⟩ | ⟨a, len, cap, elems, rest, n, rfl, rfl, rfl, hb, hl, hm, hlen, hel, hsp, hns⟩
      · exact .cons (.snil _ none trivial (fun h => by cases h)) .nil
      · have ih := fun (cs : List Value) (x : DataW H × List MemPlace) (hx : DataW.trod enc P w base (fun _ => true) held n e cs = some x) => rep_of_trod hS n e cs x he' hx
        refine .cons ?_ .nil
        have hlen' : (elems.map (·.1)).length = len := by simpa using hlen
        show Rep _ true (.sl .no (elems.map (·.1)).length (atF (avDL (elems.map (·.1))))) _
        rw [hlen']
        refine rep_of_slice (base := base) hz' hl (by rw [avDL_map]; simpa using hlen) (fun i hi => ?_) (fun h0 hc => ?_)
        · have h1 := hel i hi
          obtain ⟨y, hy⟩ : ∃ y, elems[i]? = some y := ⟨_, List.getElem?_eq_getElem (by omega)⟩
          rw [hy, Option.bind_eq_some_iff] at h1
          obtain ⟨cs', h2, h3⟩ := h1
          refine ⟨cs', h2, ?_⟩
          have := ih cs' y h3
          rw [avDL_map]
          simp only [List.getD_eq_getElem?_getD, List.getElem?_map, hy, Option.map_some, Option.getD_some]
          exact this
        · obtain ⟨hr, hr2⟩ := hsp rfl
          have h1 := hr2 0 (by omega)
          obtain ⟨y, hy⟩ : ∃ y, rest[0]? = some y := ⟨_, List.getElem?_eq_getElem (by omega)⟩
          rw [hy, Option.bind_eq_some_iff] at h1
          obtain ⟨cs', h2, h3⟩ := h1
          subst h0
          rw [Nat.zero_add, Nat.zero_mul] at h2
          exact ⟨cs', h2⟩
    · cases hst
termination_by fuel => fuel

/-- an argument -/
theorem rep_of_arg {S : List TypeId} (hS : plainTys P S = true) {w : World} {base b0 : Nat} {held : Bool} {t : TypeId} {v : Value} {d : DataW H} {ps : List MemPlace} (ht : t ∈ S)
    (hval : Value.okWide P w .any b0 t v) (h : DataW.Trod enc P w base (fun _ => true) held t v d ps) : Rep (Cx.bare w fun _ => none) true (avD d) v := by
  obtain ⟨fuel, hf⟩ := h
  have hr := rep_of_trod hS fuel t _ _ ht hf
  have hst : plainStep P S t = true := List.all_eq_true.1 hS t ht
  unfold plainStep at hst
  split at hst
  · rename_i hu
    obtain ⟨b, e1, e2⟩ := DataW.trod_bool hu hf
    obtain ⟨b', rfl⟩ := okWide_bool hu hval
    simp [Value.cells] at e1; subst e1
    injection e2 with e2 _; subst e2
    exact .bool ..
  · rename_i k hu
    obtain ⟨n, e1, e2, _⟩ := DataW.trod_int hu hf
    obtain ⟨n', rfl⟩ := okWide_int hu hval
    simp [Value.cells] at e1; subst e1
    injection e2 with e2 _; subst e2
    exact .int ..
  · rename_i hu
    obtain ⟨s, e1, e2, _⟩ := DataW.trod_string hu hf
    obtain ⟨s', rfl⟩ := okWide_string hu hval
    simp [Value.cells] at e1; subst e1
    injection e2 with e2 _; subst e2
    exact .str _ _
  · rename_i fs hu
    obtain ⟨xs, n, _, e2, _⟩ := DataW.trod_struct hu hf
    have hv : ∃ cs, v = .agg cs := by
      simp only [Value.okWide, hu] at hval
      obtain ⟨cs, h, _⟩ := hval
      exact ⟨cs, h⟩
    obtain ⟨cs, rfl⟩ := hv
    injection e2 with e2 _; subst e2
    have : RepL (Cx.bare w fun _ => none) true (avDC (xs.map (·.1))) cs.toList := hr
    have := Rep.agg this
    simp only [Array.toArray_toList] at this
    show Rep (Cx.bare w fun _ => none) true (.agg (avDC _)) _
    exact this
  · rename_i e hu
    have hv : ∃ A n c, v = .slice A n c := okWide_slice hu hval
    obtain ⟨A, n, c, rfl⟩ := hv
    have hr' : RepL (Cx.bare w fun _ => none) true (avD d).cells [.slice A n c] := by simpa [Value.cells] using hr
    rcases DataW.trod_slice hu hf with ⟨_, e2⟩ | ⟨a, len, cap, elems, rest, n', _, _, e2, _⟩
    · injection e2 with e2 _; subst e2
      cases hr' with | cons h _ => exact h
    · injection e2 with e2 _; subst e2
      cases hr' with | cons h _ => exact h
  · cases hst

/-! ### What is left behind the call -/
theorem trodAll_below {W W' : World} (hb : RowKit.Below W.heap.size W W') (hl : laidOutB P = true) : ∀ {ts : List TypeId} {vs : List Value} {ds : List (DataW H)} {ps : List MemPlace},
    (ts.all fun t => P.readableRec t && decide (t < P.types.size)) = true → DataW.TrodAll enc P W 0 (fun _ => true) true ts vs ds ps → ∀ sp : Nat → Bool, (∀ p ∈ ps, sp p.block = true) → (∀ p ∈ ps, p.block < W.heap.size) → DataW.TrodAll enc P W' 0 sp true ts vs ds ps
  | [], [], [], ps, _, h, sp, _, _ => h
  | t :: ts, v :: vs, d :: ds, ps, ht, h, sp, hsp, hlt => by
    obtain ⟨p, q, h1, h2, rfl⟩ := h
    simp only [List.all_cons, Bool.and_eq_true, decide_eq_true_eq] at ht
    refine ⟨p, q, ?_, trodAll_below hb hl (by simpa using ht.2) h2 sp (fun x hx => hsp x (List.mem_append_right _ hx)) (fun x hx => hlt x (List.mem_append_right _ hx)), rfl⟩
    exact WideElems.Trod_stays hl ht.1.1 ht.1.2 h1 (fun x hx => hb.same (hlt x (List.mem_append_left _ hx))) (fun x hx => hsp x (List.mem_append_left _ hx))
  | [], [], _ :: _, _, _, h, _, _, _ => h.elim
  | [], _ :: _, _, _, _, h, _, _, _ => h.elim
  | _ :: _, [], _, _, _, h, _, _, _ => h.elim
  | _ :: _, _ :: _, [], _, _, h, _, _, _ => h.elim

theorem frozen_below {W W' : World} (hb : RowKit.Below W.heap.size W W') {b o : Nat} (h : b < W.heap.size) : W'.frozen? ⟨b, o, none⟩ = W.frozen? ⟨b, o, none⟩ := by
  simp only [World.frozen?, hb.block b h]

theorem post_of_below {f : Func} {s : ChangeSpec} {W W' : World} {args : Array Value} {ds gs : List (DataW H)} {before : List MemPlace} {tb : TypeId}
    (hl : laidOutB P = true) (hp : (f.params.toList.all fun t => P.readableRec t && decide (t < P.types.size)) = true) (hrt : f.resultTypes = #[tb]) (htb : P.underlying tb = some .bool) (hv : s.vars = [])
    (hW : DataW.Whole enc P f.params.toList s.vars false W args.toList ds gs before)
    (hs : ∀ l : List (DataW H), l.length = f.params.size → (s.fn H l).results = [.lit (.bool true)] ∧ (s.fn H l).args = l ∧ (s.fn H l).vars = [])
    (hb : RowKit.Below W.heap.size W W') : s.post enc P f false true false false W args (.bool true) W' := by
  have hW0 := hW
  obtain ⟨p, q, hA, hV, rfl, hfz, hnd⟩ := hW
  rw [hv] at hV
  obtain ⟨rfl, rfl⟩ := trodVars_none hV
  have hlen : (ds ++ ([] : List (DataW H))).length = f.params.size := by
    have := (Go.trodAll_length hA).2
    simpa using this
  obtain ⟨s1, s2, s3⟩ := hs (ds ++ []) hlen
  have hlt : ∀ x ∈ p ++ ([] : List MemPlace), x.block < W.heap.size := fun x hx => hW0.lt x hx
  have hold : ∀ x ∈ p ++ ([] : List MemPlace), (fun b => decide (b < W.heap.size)) x.block = true := fun x hx => by simpa using hlt x hx
  have hargs : ∀ sp : Nat → Bool, (∀ x ∈ p ++ ([] : List MemPlace), sp x.block = true) → DataW.TrodAll enc P W' 0 sp true f.params.toList args.toList (s.fn H (ds ++ [])).args p := by
    intro sp hsp
    rw [s2, List.append_nil]
    exact trodAll_below hb hl hp hA sp (fun x hx => hsp x (by simpa using hx)) (fun x hx => hlt x (by simpa using hx))
  have hvars : ∀ sp : Nat → Bool, (∀ x ∈ p ++ ([] : List MemPlace), sp x.block = true) → DataW.TrodVars enc P W' sp s.vars (s.fn H (ds ++ [])).vars [] := by
    intro sp _
    rw [hv, s3]
    rfl
  have hres : ∀ (b : Nat) (sp : Nat → Bool) (hd : Bool), DataW.TrodAll enc P W' b sp hd f.resultTypes.toList ((Value.bool true).resultList f.resultTypes.size) (s.fn H (ds ++ [])).results [] := by
    intro b sp hd
    rw [s1, hrt]
    exact trodAll_cons_mk (shut_bool htb _) trodAll_mk0
  refine ⟨ds, [], p ++ [], [], p, [], hW0, hres _ _ _, hargs _ hold, hvars _ hold, World.keptBut_mono (fun x hx => ⟨hx, ?_⟩) (hb.frame _), fun _ => ?_⟩
  · exact Or.inr (by simpa using hx)
  · refine ⟨ok_one hrt rfl (okWide_bool_mk htb _), _, _, ([] ++ p) ++ [], ⟨[] ++ p, [], trodAll_append (hargs _ (fun _ _ => rfl)) (hres _ _ _), hvars _ (fun _ _ => rfl), rfl, ?_, ?_⟩, ?_⟩
    · intro b off hx
      have hx' : MemPlace.cell b off ∈ p ++ ([] : List MemPlace) := by simpa using hx
      have hlt' : b < W.heap.size := hlt _ hx'
      exact (frozen_below hb hlt').trans (hfz b off hx')
    · intro ha; cases ha
    · intro x hx _
      simpa using hx

/-! ### Package-level variables, laid -/
mutual
def dataCells : DataW Unit → List Value
  | .lit l => match l with
    | .int k n => [.int k n]
    | .bool b => [.bool b]
    | .string s => [.string ⟨s.toArray⟩]
    | _ => []
  | .agg ds => dataCellsL ds
  | _ => []
def dataCellsL : List (DataW Unit) → List Value
  | [] => []
  | d :: ds => dataCells d ++ dataCellsL ds
end
def layIn (h : Array Obj) : List (Nat × DataW Unit) → Array Obj
  | [] => h
  | (g, d) :: l => layIn (h.modify g fun
      | .cells _ t frozen => .cells (dataCells d).toArray t frozen
      | o => o) l
/-- a world whose variables hold what is laid -/
noncomputable def World.laying (P : Program) (os : Os) (l : List (Nat × DataW Unit)) : World :=
  { World.holding P os ⟨#[], #[], []⟩ with heap := layIn (World.holding P os ⟨#[], #[], []⟩).heap l }
end
end Go.Ab
