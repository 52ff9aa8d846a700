/- The symbolic evaluator: the soundness of its operations, second part: structs, slices, arithmetic. -/
import Derived.Test.YtejepcnoflahkaaGreatDoorAbSound
namespace Go.Ab
set_option linter.unusedVariables false
set_option linter.unusedSimpArgs false
section
variable {P : Program} {E : Env} {s : St} {a : Act} {X : Cx}

/-! ### Structs, arrays, slices as values -/
theorem placeA_some {fs : List (Nat × Nat × Bool)} {i off size : Nat} (h : placeA E fs i = some (off, size)) : ∃ t b ti, fs[i]? = some (t, off, b) ∧ E.Γ t = some ti ∧ ti.size = size := by
  unfold placeA at h
  split at h
  · cases h
  · rename_i t o b hf
    split at h
    · cases h
    · rename_i ti ht
      simp only [Option.some.injEq, Prod.mk.injEq] at h
      obtain ⟨rfl, rfl⟩ := h
      exact ⟨t, b, ti, hf, ht, rfl⟩
theorem places_of (hΓ : GOk P E.Γ) : ∀ (fs : List Field), allA E (fs.map fun f => (f.type, f.offset, f.name == "_")) = true →
    ∃ places, fs.mapM (fun f => (P.info? f.type).map fun i => (f.offset, i.size)) = some places ∧ ∀ i : Nat, places[i]? = placeA E (fs.map fun f => (f.type, f.offset, f.name == "_")) i
  | [], _ => ⟨[], by simp, fun i => by simp [placeA]⟩
  | f :: fs, h => by
    simp only [List.map_cons, allA] at h
    split at h
    · cases h
    · rename_i ti ht
      obtain ⟨k⟩ := hΓ _ _ ht
      obtain ⟨places, h1, h2⟩ := places_of hΓ fs h
      refine ⟨(f.offset, ti.size) :: places, by simp [k.info, h1, k.size], fun i => ?_⟩
      cases i with
      | zero => simp [placeA, ht]
      | succ i => simpa [placeA] using h2 i
theorem buildA_sound (hΓ : GOk P E.Γ) {T : Nat} {ps : List (Nat × AV)} {cps : List (Nat × Value)} {v : AV} (hp : RepL X false (ps.map (·.2)) (cps.map (·.2))) (he : ps.map (·.1) = cps.map (·.1)) (h : buildA E T ps = some v) :
    ∃ cv, (Instr.build T cps.toArray).run P X.w = .ok cv X.w ∧ Rep X false v cv := by
  unfold buildA at h
  split at h
  · cases h
  rename_i ti hti
  obtain ⟨k⟩ := hΓ _ _ hti
  split at h
  · rename_i gs hgs
    split at h
    · rename_i hall
      split at h
      · rename_i cells hc
        injection h with h; subst h
        obtain ⟨fs, hd, hg⟩ := dm_struct (hgs ▸ k.dm)
        subst hg
        obtain ⟨places, hp1, hp2⟩ := places_of hΓ fs.toList hall
        have hpl : placeA E (fs.toList.map fun f => (f.type, f.offset, f.name == "_")) = fun i => places[i]? := by funext i; exact (hp2 i).symm
        rw [hpl] at hc
        obtain ⟨rv, h1, h2⟩ := fill_sound hp he (vOk_cells X false k.zok) hc
        refine ⟨_, run_build X.w T cps.toArray rv ?_, .agg (vs := rv.toList) h2⟩
        have hu := k.und; rw [hd] at hu
        unfold Program.built
        simp only [k.info, hu, k.zero, hp1]
        simpa using h1
      · cases h
    · cases h
  · rename_i n e hd
    split at h
    · cases h
    · rename_i te hte
      obtain ⟨ke⟩ := hΓ _ _ hte
      split at h
      · rename_i cells hc
        injection h with h; subst h
        obtain ⟨rv, h1, h2⟩ := fill_sound hp he (vOk_cells X false k.zok) hc
        refine ⟨_, run_build X.w T cps.toArray rv ?_, .agg (vs := rv.toList) h2⟩
        have hda : k.d = .array n e := dm_array (hd ▸ k.dm)
        have hu := k.und; rw [hda] at hu
        unfold Program.built
        simp only [k.info, hu, k.zero, ke.info, ke.size]
        simpa using h1
      · cases h
  · cases h

theorem repCells_rep {p : Bool} {z : List AV} {zs : List Value} (h : RepL X p z zs) : ∀ n, RepL X p (repCells z n) (List.flatten (List.replicate n zs))
  | 0 => .nil
  | n + 1 => by
    simp only [repCells, List.replicate_succ, List.flatten_cons]
    exact h.append (repCells_rep h n)
theorem zeros_eq (zs : Array Value) (h0 : 0 < zs.size) : ∀ n : Nat, (Array.range (n * zs.size)).map (fun i => zs[i % zs.size]!) = (List.flatten (List.replicate n zs.toList)).toArray := by
  intro n
  apply Array.ext'
  simp only [Array.toList_map, Array.toList_range]
  induction n with
  | zero => simp
  | succ n ih =>
    rw [List.replicate_succ', List.flatten_append, ← ih, Nat.succ_mul, List.range_add, List.map_append]
    congr 1
    simp only [List.flatten_cons, List.flatten_nil, List.append_nil, List.map_map]
    apply List.ext_getElem
    · simp
    · intro i h1 h2
      simp only [List.length_map, List.length_range] at h1
      simp [Nat.add_mod, Nat.mod_eq_of_lt h1, getElem!_pos, h1]
theorem RepL.one {p : Bool} {v : AV} {cv : Value} (h : Rep X p v cv) : RepL X p [v] [cv] := .cons h .nil
mutual
theorem pureOf_rep : ∀ {a b : AV} {v : Value}, pureOf a = some b → Rep X false a v → Rep X true b v
  | .any, b, v, h, _ => by simp only [pureOf, Option.some.injEq] at h; subst h; exact .any ..
  | .int .., b, v, h, r => by simp only [pureOf, Option.some.injEq] at h; subst h; cases r; exact .int ..
  | .bool _, b, v, h, r => by simp only [pureOf, Option.some.injEq] at h; subst h; cases r; exact .bool ..
  | .str _, b, v, h, r => by simp only [pureOf, Option.some.injEq] at h; subst h; cases r; exact .str ..
  | .nilp, b, v, h, r => by simp only [pureOf, Option.some.injEq] at h; subst h; cases r; exact .nilp ..
  | .nilm, b, v, h, r => by simp only [pureOf, Option.some.injEq] at h; subst h; cases r; exact .nilm ..
  | .nilf, b, v, h, r => by simp only [pureOf, Option.some.injEq] at h; subst h; cases r; exact .nilf ..
  | .nili, b, v, h, r => by simp only [pureOf, Option.some.injEq] at h; subst h; cases r; exact .nili ..
  | .agg cs, b, v, h, r => by
    simp only [pureOf] at h
    split at h
    · rename_i l hl; injection h with h; subst h; cases r with | agg r => exact .agg (pureL_rep hl r)
    · cases h
  | .tup cs, b, v, h, r => by
    simp only [pureOf] at h
    split at h
    · rename_i l hl; injection h with h; subst h; cases r with | tup r => exact .tup (pureL_rep hl r)
    · cases h
  | .sl tag n f, b, v, h, r => by
    cases tag <;> simp only [pureOf, Option.some.injEq] at h <;> subst h <;> cases r with
    | snil f A ht hn => exact .snil f A trivial (by first | exact hn | (intro h; cases h))
    | sl b o cap sz g hz hc hr hg ha ht => exact .sl b o cap sz g hz hc hr hg ha (by first | trivial | exact ht)
  | .ptr .., b, v, h, _ => by cases h
  | .map _, b, v, h, _ => by cases h
  | .cptr cs o, b, v, h, r => by simp only [pureOf, Option.some.injEq] at h; subst h; cases r with | cptr h ha => exact .cptr h ha
  | .clo f l m, b, v, h, r => by
    simp only [pureOf] at h
    split at h
    · rename_i x y hx hy; injection h with h; subst h; cases r with | clo r1 r2 => exact .clo (pureL_rep hx r1) (pureL_rep hy r2)
    · cases h
  | .ifc t x, b, v, h, r => by
    simp only [pureOf] at h
    split at h
    · rename_i y hy; injection h with h; subst h; cases r with | ifc r => exact .ifc (pureOf_rep hy r)
    · cases h
theorem pureL_rep : ∀ {l m : List AV} {vs : List Value}, pureL l = some m → RepL X false l vs → RepL X true m vs
  | [], m, vs, h, r => by simp only [pureL, Option.some.injEq] at h; subst h; cases r; exact .nil
  | a :: l, m, vs, h, r => by
    simp only [pureL] at h
    split at h
    · rename_i x xs hx hxs; injection h with h; subst h; cases r with | cons r rs => exact .cons (pureOf_rep hx r) (pureL_rep hxs rs)
    · cases h
end
theorem pureParts_rep : ∀ {l m : List (Nat × AV)} {vs : List Value}, pureParts l = some m → RepL X false (l.map (·.2)) vs → RepL X true (m.map (·.2)) vs ∧ m.map (·.1) = l.map (·.1)
  | [], m, vs, h, r => by simp only [pureParts, Option.some.injEq] at h; subst h; cases r; exact ⟨.nil, rfl⟩
  | (i, a) :: l, m, vs, h, r => by
    simp only [pureParts] at h
    split at h
    · rename_i x xs hx hxs; injection h with h; subst h; cases r with
      | cons r rs =>
        obtain ⟨h1, h2⟩ := pureParts_rep hxs rs
        exact ⟨.cons (pureOf_rep hx r) h1, by simp only [List.map_cons, h2]⟩
    · cases h

theorem strsA_eq : ∀ {l : List AV} {r : List (List UInt8)}, strsA l = some r → l = r.map .str
  | [], _, h => by cases h; rfl
  | a :: l, r, h => by
    unfold strsA at h
    split at h
    · contradiction
    · rename_i s l' e
      injection e with e1 e2
      subst e1; subst e2
      split at h
      · rename_i q hq
        cases h
        rw [strsA_eq hq]; rfl
      · cases h
    · cases h
theorem strsA_get {l : List AV} {r : List (List UInt8)} (h : strsA l = some r) {i : Nat} (hi : i < l.length) : AV.str (r.getD i []) = l[i] := by
  have e := strsA_eq h
  subst e
  simp only [List.length_map] at hi
  simp [List.getD_eq_getElem?_getD, hi]
/-- A row of cells, read as a slice's elements. -/
theorem elem_rep {p : Bool} {cells : List AV} {vs : List Value} (h : RepL X p cells vs) {agg : Bool} {size n : Nat} (h0 : 0 < size) (h1 : (agg || Nat.beq size 1) = true) (hn : n * size ≤ vs.length) {i : Nat} (hi : i < n) :
    RepL X p (elemA agg size cells i).cells ((vs.drop (i * size)).take size) := by
  cases agg with
  | true => exact (h.drop (i * size)).take size
  | false =>
    have e1 : size = 1 := Nat.eq_of_beq_eq_true (by simpa using h1)
    subst e1
    have hlt : i < vs.length := by omega
    have hcl : i < cells.length := by rw [h.length]; exact hlt
    obtain ⟨v, hv, hr⟩ := h.get (i := i) (a := cells[i]) (by simp [hcl])
    have e : ((vs.drop (i * 1)).take 1) = [v] := by
      rw [Nat.mul_one, List.take_one, List.head?_drop, hv]; rfl
    have ec : cells.getD i .any = cells[i] := by simp [List.getD_eq_getElem?_getD, hcl]
    simp only [elemA, ec]
    rw [e]
    split
    · rename_i q hq
      have hx := strsA_get hq hcl
      rw [← hx] at hr
      exact RepL.one hr
    split
    · exact RepL.one (.any ..)
    · rename_i x hx
      generalize cells[i] = c at hr hx
      cases c <;> first | exact RepL.one hr | exact absurd rfl (hx _)
theorem rowRep {p : Bool} {cells : List AV} {vs : List Value} (h : RepL X true cells vs) {agg : Bool} {size n b cap : Nat} {tag : Tag} (h0 : 0 < size) (h1 : (agg || Nat.beq size 1) = true) (hn : n * size ≤ vs.length) (hc : n ≤ cap)
    (ha : ∀ j v, vs[j]? = some v → X.at_ b j v) (ht : TagOk X p tag b 0 cap size n) :
    Rep X p (.sl tag n (elemA agg size cells)) (.slice (some ⟨b, 0, none⟩) n cap) := by
  refine .sl b 0 cap size (fun i => (vs.drop (i * size)).take size) h0 hc ?_ ?_ ?_ ht
  · intro i hi
    cases agg with
    | true => exact (h.drop (i * size)).take size
    | false =>
      have e1 : size = 1 := Nat.eq_of_beq_eq_true (by simpa using h1)
      subst e1
      have hlt : i < vs.length := by omega
      have hcl : i < cells.length := by rw [h.length]; exact hlt
      obtain ⟨v, hv, hr⟩ := h.get (i := i) (a := cells[i]) (by simp [hcl])
      have e : ((vs.drop (i * 1)).take 1) = [v] := by
        rw [Nat.mul_one, List.take_one, List.head?_drop, hv]; rfl
      have ec : cells.getD i .any = cells[i] := by simp [List.getD_eq_getElem?_getD, hcl]
      simp only [elemA, ec]
      rw [e]
      split
      · rename_i q hq
        have hx := strsA_get hq hcl
        rw [← hx] at hr
        exact RepL.one hr
      split
      · exact RepL.one (.any ..)
      · rename_i x hx
        generalize cells[i] = c at hr hx
        cases c <;> first | exact RepL.one hr | exact absurd rfl (hx _)
  · intro i hi
    have : i * size + size ≤ n * size := by
      have := Nat.mul_le_mul_right size (show i + 1 ≤ n by omega)
      rwa [Nat.succ_mul] at this
    simp; omega
  · intro i hi j v hv
    rw [List.getElem?_take] at hv
    split at hv
    · rw [List.getElem?_drop] at hv
      have := ha _ _ hv
      rwa [Nat.zero_add]
    · cases hv

theorem fieldAddrA_sound (hΓ : GOk P E.Γ) {S f : Nat} {x v : AV} {cx : Value} (hx : Rep X false x cx) (h : fieldAddrA E S x f = some v) :
    ∃ cv, (Instr.fieldAt S cx f).run P X.w = .ok cv X.w ∧ Rep X false v cv := by
  unfold fieldAddrA at h
  split at h
  · cases h
  rename_i ti hti
  obtain ⟨k⟩ := hΓ _ _ hti
  split at h
  · rename_i gs hgs
    split at h
    · cases h
    · rename_i off size hpl
      split at h
      · cases h
      · rename_i hsz
        obtain ⟨fs, hd, hg⟩ := dm_struct (hgs ▸ k.dm)
        obtain ⟨t, b, tf, h1, h2, h3⟩ := placeA_some hpl
        obtain ⟨kf⟩ := hΓ _ _ h2
        rw [← hg] at h1
        simp only [List.getElem?_map, Option.map_eq_some_iff, Prod.mk.injEq] at h1
        obtain ⟨fd, hf1, hf2, hf3, _⟩ := h1
        subst hf2 hf3 h3
        have hf1' : fs[f]? = some fd := by simpa using hf1
        have hz : tf.size ≠ 0 := by
          have := Nat.le_of_ble_eq_true hsz
          omega
        have hp : ∀ ad : Addr, ad.spot = none → (fieldPlace ad fd).run P X.w = .ok (ad.add fd.offset) X.w := by
          intro ad _
          simp [fieldPlace, kf.run_size, hz]
        have hrun : ∀ bb o, (Instr.fieldAt S (.pointer (some ⟨bb, o, none⟩)) f).run P X.w = .ok (.pointer (some ⟨bb, o + fd.offset, none⟩)) X.w := by
          intro bb o
          have := hp ⟨bb, o, none⟩ rfl
          rw [add_off] at this
          simp [Instr.fieldAt, k.run_und, hd, hf1', Instr.sureAddr, this]
        split at h
        · injection h with h; subst h
          cases hx with | ptr o hb => exact ⟨_, hrun _ _, .ptr _ hb⟩
        · injection h with h; subst h
          cases hx with | cptr hr ha =>
          refine ⟨_, hrun _ _, ?_⟩
          rw [Nat.add_assoc]
          exact .cptr hr ha
        · injection h with h; subst h
          cases hx with | eptr j sz o hb =>
          refine ⟨_, hrun _ _, ?_⟩
          rw [Nat.add_assoc]
          exact .eptr _ _ _ hb
        · cases h
  · cases h

theorem part_sound {ti : TI} {T : Nat} (k : TIOk P T ti) {p : Bool} {cs : List AV} {vs : List Value} (h : RepL X p cs vs) {off : Nat} {v : AV} (hv : cellsAt ti.d.agg ti.size cs off = some v) :
    ∃ cv, (part T vs.toArray off).run P X.w = .ok cv X.w ∧ Rep X p v cv := by
  rcases cellsAt_rep h hv with ⟨e, h1, h2⟩ | ⟨e, u, h1, h2⟩
  · refine ⟨_, ?_, h2⟩
    simp [part, k.run_agg, e, k.run_size, Nat.add_sub_cancel_left]
  · refine ⟨u, ?_, h2⟩
    simp [part, k.run_agg, e, h1]
theorem fieldA_sound (hΓ : GOk P E.Γ) {S f : Nat} {x v : AV} {cx : Value} (hx : Rep X false x cx) (h : fieldA E S x f = some v) :
    ∃ cv, (Instr.field S cx f).run P X.w = .ok cv X.w ∧ Rep X false v cv := by
  unfold fieldA at h
  split at h
  · cases h
  rename_i ti hti
  obtain ⟨k⟩ := hΓ _ _ hti
  split at h
  · rename_i gs hgs
    split at h
    · cases h
    · rename_i t off b hf
      split at h
      · cases h
      · rename_i tf htf
        obtain ⟨kf⟩ := hΓ _ _ htf
        split at h
        · obtain ⟨fs, hd, hg⟩ := dm_struct (hgs ▸ k.dm)
          rw [← hg] at hf
          simp only [List.getElem?_map, Option.map_eq_some_iff, Prod.mk.injEq] at hf
          obtain ⟨fd, hf1, hf2, hf3, _⟩ := hf
          subst hf2 hf3
          have hf1' : fs[f]? = some fd := by simpa using hf1
          cases hx with | agg hr =>
          obtain ⟨cv, h1, h2⟩ := part_sound kf hr h
          exact ⟨cv, by simp [Instr.field, k.run_und, hd, hf1', asAgg, h1], h2⟩
        · cases h
  · cases h

theorem indexAddrA_sound (hΓ : GOk P E.Γ) {T : Nat} {x i : AV} {cx ci : Value} (hx : Rep X false x cx) (hi : Rep X false i ci) :
    (indexAddrA E s T x i).sat fun v s' => s' = s ∧ ∃ cv, (Instr.indexAt T cx ci).run P X.w = .ok cv X.w ∧ Rep X false v cv := by
  unfold indexAddrA
  split
  · trivial
  rename_i ti hti
  obtain ⟨k⟩ := hΓ _ _ hti
  split
  · rename_i e he
    have hd := dm_slice (he ▸ k.dm)
    split
    · trivial
    rename_i te hte
    obtain ⟨ke⟩ := hΓ _ _ hte
    split
    · rename_i tag n f kd j
      rintro ⟨⟨h0, h1⟩, hl, hk⟩
      refine ⟨rfl, ?_⟩
      cases hi
      cases hx with
      | snil => omega
      | sl b o cap sz g hz hc hr hg ha ht =>
        have hjn : j.toNat < n := by omega
        have hrj := hr _ hjn
        have hgj := hg _ hjn
        have hsz : sz = te.size := by rw [← hgj, ← hrj.length, hl]
        refine ⟨.pointer (some ⟨b, o + j.toNat * te.size + 0, none⟩), ?_, .cptr hrj fun q v hq => ?_⟩
        · have hcond : 0 ≤ j ∧ j < (n : Int) := ⟨h0, h1⟩
          simp only [Instr.indexAt, asIntOf, Sem.run_bind, Sem.run_pure, Result.andThen_ok, k.run_und, hd]
          cases htiny : decide (n ≤ 1) <;> simp [hcond, ke.run_size, add_off]
        · have := ha _ hjn q v hq
          rwa [hsz] at this
    · rename_i b lo n sz cap kd j
      rintro ⟨⟨h0, h1⟩, rfl⟩
      refine ⟨rfl, ?_⟩
      cases hi
      cases hx with
      | hs0 => omega
      | hs _ _ _ _ capc o hb hlt hz hn hc ho hbs =>
      rename_i c
      have ho' : o = lo * te.size := ho.resolve_left (by omega)
      subst ho'
      refine ⟨.pointer (some ⟨c, lo * te.size + j.toNat * te.size, none⟩), ?_, ?_⟩
      · have hcond : 0 ≤ j ∧ j < (n : Int) := ⟨h0, h1⟩
        simp only [Instr.indexAt, asIntOf, Sem.run_bind, Sem.run_pure, Result.andThen_ok, k.run_und, hd]
        cases htiny : decide (n ≤ 1) <;> simp [hcond, ke.run_size, add_off]
      · have := Rep.eptr (lo + j.toNat) te.size 0 hb
        rwa [Nat.add_mul, Nat.add_zero] at this
    · trivial
  · rename_i n e he
    have hd := dm_array (he ▸ k.dm)
    split
    · trivial
    rename_i te hte
    obtain ⟨ke⟩ := hΓ _ _ hte
    split
    · rename_i b o kd j
      rintro ⟨⟨h0, h1⟩, hsz⟩
      refine ⟨rfl, ?_⟩
      cases hi
      cases hx with | ptr o hb =>
      refine ⟨_, ?_, .ptr _ hb⟩
      have hcond : 0 ≤ j ∧ j < (n : Int) := ⟨h0, h1⟩
      simp only [Instr.indexAt, asIntOf, Sem.run_bind, Sem.run_pure, Result.andThen_ok, k.run_und, hd, Instr.sureAddr]
      simp [hcond, ke.run_size, add_off]
    · rename_i cs o kd j
      rintro ⟨⟨h0, h1⟩, hsz⟩
      refine ⟨rfl, ?_⟩
      cases hi
      cases hx with | cptr hr ha =>
      refine ⟨_, ?_, .cptr hr ha⟩
      have hcond : 0 ≤ j ∧ j < (n : Int) := ⟨h0, h1⟩
      simp only [Instr.indexAt, asIntOf, Sem.run_bind, Sem.run_pure, Result.andThen_ok, k.run_und, hd, Instr.sureAddr]
      simp [hcond, ke.run_size, add_off, Nat.add_assoc]
    · trivial
  · trivial

theorem indexA_sound (hΓ : GOk P E.Γ) {T : Nat} {x i : AV} {cx ci : Value} (hx : Rep X false x cx) (hi : Rep X false i ci) :
    (indexA E s T x i).sat fun v s' => s' = s ∧ ∃ cv, (Instr.index T cx ci).run P X.w = .ok cv X.w ∧ Rep X false v cv := by
  unfold indexA
  split
  · trivial
  rename_i ti hti
  obtain ⟨k⟩ := hΓ _ _ hti
  split
  · rename_i bs kd j he
    rintro ⟨h0, h1⟩
    refine ⟨rfl, ?_⟩
    have hd := dm_str (he ▸ k.dm)
    cases hi
    cases hx
    have hj : j.toNat < bs.length := by omega
    refine ⟨.int .u8 (bs.getD j.toNat 0).toNat, ?_, .int ..⟩
    have hg : (ByteArray.mk bs.toArray)[j.toNat]? = some (bs.getD j.toNat 0) := by
      have hsz : j.toNat < (ByteArray.mk bs.toArray).size := by simpa [ByteArray.size] using hj
      rw [getElem?_pos (ByteArray.mk bs.toArray) j.toNat hsz]
      congr 1
      show (bs.toArray)[j.toNat]'(by simpa using hj) = _
      simp [List.getD_eq_getElem?_getD, hj]
    simp only [Instr.index, asIntOf, Sem.run_bind, Sem.run_pure, Result.andThen_ok, k.run_und, hd, if_pos h0, hg]
  · rename_i n e cs kd j he
    have hd := dm_array (he ▸ k.dm)
    split
    · trivial
    rename_i te hte
    obtain ⟨ke⟩ := hΓ _ _ hte
    split
    · rename_i hag
      rintro ⟨⟨h0, h1⟩, hl⟩
      refine ⟨rfl, ?_⟩
      cases hi
      cases hx with | agg hr =>
      rename_i vs
      have hcond : 0 ≤ j ∧ j < (n : Int) := ⟨h0, h1⟩
      have hb : j.toNat * te.size + te.size ≤ cs.length := by
        rw [← hl]
        have := Nat.mul_le_mul_right te.size (show j.toNat + 1 ≤ n by omega)
        rwa [Nat.succ_mul] at this
      obtain ⟨cv, h1, h2⟩ := part_sound (X := X) ke hr (off := j.toNat * te.size) (v := .agg ((cs.drop (j.toNat * te.size)).take te.size)) (by
        unfold cellsAt
        rw [hag]
        have : Nat.ble (j.toNat * te.size + te.size) cs.length = true := Nat.ble_eq_true_of_le hb
        simp [this])
      refine ⟨cv, ?_, h2⟩
      simp only [Instr.index, asIntOf, Sem.run_bind, Sem.run_pure, Result.andThen_ok, k.run_und, hd, if_pos hcond, ke.run_size, h1]
    · rename_i hag
      rintro ⟨⟨h0, h1⟩, hl, hz⟩
      refine ⟨rfl, ?_⟩
      cases hi
      cases hx with | agg hr =>
      rename_i vs
      have hcond : 0 ≤ j ∧ j < (n : Int) := ⟨h0, h1⟩
      have hb : j.toNat < cs.length := by omega
      obtain ⟨cv, h1, h2⟩ := part_sound (X := X) ke hr (off := j.toNat * te.size) (v := cs.getD j.toNat .any) (by
        unfold cellsAt
        rw [hag]
        simp only [hz, Nat.mul_one, List.getD_eq_getElem?_getD]
        simp [hb])
      refine ⟨cv, ?_, h2⟩
      simp only [Instr.index, asIntOf, Sem.run_bind, Sem.run_pure, Result.andThen_ok, k.run_und, hd, if_pos hcond, ke.run_size, h1]
  · trivial
end
end Go.Ab
