/- The symbolic evaluator: the soundness of its operations, third part: slices, arithmetic, comparisons, conversions. -/
import Derived.Test.YtejepcnoflahkaaGreatDoorAbSound2
namespace Go.Ab
set_option linter.unusedVariables false
set_option linter.unusedSimpArgs false
section
variable {P : Program} {E : Env} {s : St} {a : Act} {X : Cx}

theorem fill_size {place : Nat → Option (Nat × Nat)} : ∀ (cps : List (Nat × Value)) (vs rv : Array Value), Instr.fill place vs cps = some rv → rv.size = vs.size
  | [], vs, rv, h => by simp only [Instr.fill, Option.some.injEq] at h; rw [← h]
  | (ci, cv) :: cps, vs, rv, h => by
    simp only [Instr.fill] at h
    split at h
    · cases h
    · split at h
      · cases h
      · rw [fill_size _ _ _ h]
        have aux : ∀ (l : List (Value × Nat)) (b : Array Value) (off : Nat), (l.foldl (fun (cs : Array Value) x => cs.setIfInBounds (off + x.2) x.1) b).size = b.size := by
          intro l
          induction l with
          | nil => intro b off; rfl
          | cons y l ih => intro b off; simp only [List.foldl_cons, ih]; simp
        rw [← Array.foldl_toList]
        exact aux _ _ _

theorem buildSliceA_sound (hΓ : GOk P E.Γ) {T len : Nat} {ps : List (Nat × AV)} {cps : List (Nat × Value)} {v : AV} (hp : RepL X false (ps.map (·.2)) (cps.map (·.2)))
    (he : ps.map (·.1) = cps.map (·.1)) (h : buildSliceA E T len ps = some v) :
    ∃ cv Y, (Instr.buildSlice T len cps.toArray).run P X.w = .ok cv Y.w ∧ Same X Y ∧ Rep Y false v cv := by
  unfold buildSliceA at h
  split at h
  · cases h
  rename_i ti hti
  obtain ⟨k⟩ := hΓ _ _ hti
  split at h
  · rename_i e hd
    split at h
    · cases h
    rename_i te hte
    obtain ⟨ke⟩ := hΓ _ _ hte
    split at h
    · rename_i h1 h2 h3 h4
      split at h
      · cases h
      rename_i pl hpl
      obtain ⟨hpure, hpe⟩ := pureParts_rep hpl hp
      split at h
      · rename_i cells hc
        rw [forceL_eq] at h
        injection h with h; subst h
        have h0 : 0 < te.size := by have := Nat.le_of_ble_eq_true h1; omega
        have hb := Nat.le_of_ble_eq_true h2
        have hz3 := Nat.eq_of_beq_eq_true h3
        have hzl : ke.zv.cells.size = te.size := by
          have := (vOk_cells X true ke.zok).length
          simpa [hz3] using this.symm
        obtain ⟨rv, k1, k2⟩ := fill_sound hpure (hpe.trans he) (repCells_rep (vOk_cells X true ke.zok) len) hc
        have hrl := fill_size _ _ _ k1
        have hrn : rv.toList.length = len * te.size := by
          simp only [Array.length_toList, hrl, List.size_toArray, List.length_flatten, List.map_replicate, List.sum_replicate_nat, hzl]
        have hY : Same X (X.row (.cells rv e (0, 0))) := Same.row X _
        have hrep : RepL (X.row (.cells rv e (0, 0))) true cells rv.toList := RepL.pmono hY.ext rfl k2
        refine ⟨.slice (some ⟨X.w.heap.size, 0, none⟩) len len, X.row (.cells rv e (0, 0)), ?_, hY, ?_⟩
        · have hde : k.d = .slice e := dm_slice (hd ▸ k.dm)
          have hnot : ¬ len * te.size > 2 ^ 24 := by omega
          by_cases hz : len * te.size = 0
          · have hl0 : len = 0 := by
              rcases Nat.mul_eq_zero.1 hz with h | h
              · exact h
              · omega
            subst hl0
            have hf : Instr.fill (fun i => some (i * te.size, te.size)) #[] cps = some rv := by
              rw [← k1]; simp
            have hr0 : ∀ f : Nat → Value, Array.map f (Array.range 0) = #[] := fun f => by simp [Array.range]
            simp [Instr.buildSlice, k.run_und, hde, ke.run_size, hf, newRow, Cx.row, hr0]
          · have hze := zeros_eq ke.zv.cells (by omega) len
            rw [hzl] at hze
            have hf : Instr.fill (fun i => some (i * te.size, te.size)) ((Array.range (len * te.size)).map fun i => ke.zv.cells[i % ke.zv.cells.size]!) cps = some rv := by
              rw [← k1, hzl, hze]
            simp only [Instr.buildSlice, Sem.run_bind, k.run_und, Result.andThen_ok, hde, ke.run_size, if_neg hnot, if_neg hz, Sem.run_ite, Sem.run_pure, ke.run_zero, hf]
            simp [newRow, Cx.row]
        · exact rowRep hrep h0 h4 (by omega) (Nat.le_refl _) (fun j v hv => at_row X (by simpa using hv)) rfl
      · cases h
    · cases h
  · cases h

theorem buildRowA_sound (hΓ : GOk P E.Γ) (r : Rel s a X) {T len : Nat} {ps : List (Nat × AV)} {cps : List (Nat × Value)} (hp : RepL X false (ps.map (·.2)) (cps.map (·.2)))
    (he : ps.map (·.1) = cps.map (·.1)) :
    (buildRowA E s T len ps).sat fun v s' => ∃ cv Y, (Instr.buildSlice T len cps.toArray).run P X.w = .ok cv Y.w ∧ Rep Y false v cv ∧ Rel s' a Y ∧ Fr X Y := by
  unfold buildRowA
  split
  · trivial
  rename_i ti hti
  obtain ⟨k⟩ := hΓ _ _ hti
  split
  · rename_i e hd
    split
    · trivial
    rename_i te hte
    obtain ⟨ke⟩ := hΓ _ _ hte
    split
    · rename_i h1 h2 h3 h4
      split
      · rename_i cells hc
        rw [forceL_eq]
        have h0 : 0 < te.size := by have := Nat.le_of_ble_eq_true h1; omega
        have hb := Nat.le_of_ble_eq_true h2
        have hz3 := Nat.eq_of_beq_eq_true h3
        have hzl : ke.zv.cells.size = te.size := by
          have := (vOk_cells X true ke.zok).length
          simpa [hz3] using this.symm
        obtain ⟨rv, k1, k2⟩ := fill_sound hp he (repCells_rep (vOk_cells X false ke.zok) len) hc
        have hrl := fill_size _ _ _ k1
        have hrn : rv.toList.length = len * te.size := by
          simp only [Array.length_toList, hrl, List.size_toArray, List.length_flatten, List.map_replicate, List.sum_replicate_nat, hzl]
        have hrun : (Instr.buildSlice T len cps.toArray).run P X.w = .ok (.slice (some ⟨X.w.heap.size, 0, none⟩) len len) (X.new s.nx (.cells rv e (0, 0))).w := by
          have hde : k.d = .slice e := dm_slice (hd ▸ k.dm)
          have hnot : ¬ len * te.size > 2 ^ 24 := by omega
          by_cases hz : len * te.size = 0
          · have hl0 : len = 0 := by
              rcases Nat.mul_eq_zero.1 hz with h | h
              · exact h
              · omega
            subst hl0
            have hf : Instr.fill (fun i => some (i * te.size, te.size)) #[] cps = some rv := by
              rw [← k1]; simp
            have hr0 : ∀ f : Nat → Value, Array.map f (Array.range 0) = #[] := fun f => by simp [Array.range]
            simp [Instr.buildSlice, k.run_und, hde, ke.run_size, hf, newRow, Cx.new, hr0]
          · have hze := zeros_eq ke.zv.cells (by omega) len
            rw [hzl] at hze
            have hf : Instr.fill (fun i => some (i * te.size, te.size)) ((Array.range (len * te.size)).map fun i => ke.zv.cells[i % ke.zv.cells.size]!) cps = some rv := by
              rw [← k1, hzl, hze]
            simp only [Instr.buildSlice, Sem.run_bind, k.run_und, Result.andThen_ok, hde, ke.run_size, if_neg hnot, if_neg hz, Sem.run_ite, Sem.run_pure, ke.run_zero, hf]
            simp [newRow, Cx.new]
        have hbs : (X.new s.nx (.cells rv e (0, 0))).bs X.w.heap.size = rv.size := upd_same ..
        have hfr := X.new_fr (i := s.nx) (.cells rv e (0, 0)) r.mu_none r.mu_lt
        refine ⟨_, X.new s.nx (.cells rv e (0, 0)), hrun, ?_, ?_, hfr⟩
        · refine .hs 0 len te.size _ len 0 (upd_same ..) (by simp [Cx.new]) h0 (Nat.le_refl _) (fun c hc => by injection hc) (.inr (by simp)) ?_
          rw [hbs, Nat.zero_add]
          simpa using Nat.le_of_eq hrn.symm
        · refine r.new _ _ ⟨rv.toList, (0, 0), by rw [Array.toArray_toList]; exact push_eq, .inl (Nat.le_refl _), h0, by omega, by rw [hbs]; simp, fun j hj => ?_⟩
          exact elem_rep (k2.mono hfr.ext) h0 h4 (by omega) hj
      · trivial
    · trivial
  · trivial

theorem cells_flat (z : Array Value) (h0 : 0 < z.size) (n : Nat) : ((Array.range (n * z.size)).map fun i => z[i % z.size]!).size = n * z.size := by simp

theorem makeSliceA_sound (hΓ : GOk P E.Γ) (r : Rel s a X) {T : Nat} {l c : AV} {cl cc : Value} (hl : Rep X false l cl) (hc : Rep X false c cc) :
    (makeSliceA E s T l c).sat fun v s' => ∃ cv Y, (Instr.makeSlice T cl cc).run P X.w = .ok cv Y.w ∧ Rep Y false v cv ∧ Rel s' a Y ∧ Fr X Y := by
  unfold makeSliceA
  split
  · trivial
  rename_i ti hti
  obtain ⟨k⟩ := hΓ _ _ hti
  split
  · rename_i e hd
    split
    · trivial
    rename_i te hte
    obtain ⟨ke⟩ := hΓ _ _ hte
    split
    · rename_i n m
      -- what the operation gives, told once
      have main : n = m ∧ 0 ≤ n ∧ te.bytes * n ≤ 281474976710656 ∧ n ≤ 9223372036854775807 ∧ te.zero.cells.length = te.size ∧ 0 < te.size →
          ∃ cells : Array Value, (∀ (w : World), (Instr.makeSlice T cl cc).run P w = .ok (.slice (some ⟨w.heap.size, 0, none⟩) n.toNat n.toNat) { w with heap := w.heap.push (.cells cells e (0, 0)) }) ∧
            cells.toList.length = n.toNat * te.size ∧ ∀ i, i < n.toNat → (cells.toList.drop (i * te.size)).take te.size = ke.zv.cells.toList := by
        rintro ⟨rfl, h0, hb, hm, hzc, hpos⟩
        cases hl
        cases hc
        have hde : k.d = .slice e := dm_slice (hd ▸ k.dm)
        obtain ⟨q, rfl⟩ := Int.eq_ofNat_of_zero_le h0
        have hzl : ke.zv.cells.size = te.size := by
          have := (vOk_cells X true ke.zok).length
          simpa [hzc] using this.symm
        have hwrap : IntKind.i64.wrap (q : Int) = q := IntWalk.i64_in _ (by omega)
        rw [show (q : Int).toNat = q from Int.toNat_natCast q]
        refine ⟨(List.flatten (List.replicate q ke.zv.cells.toList)).toArray, fun w => ?_, by simp [hzl], ?_⟩
        · have hby : ¬ ((ke.i.bytes : Int) * (q : Int) > 281474976710656) := by
            rw [ke.bytes]; omega
          have hz0 : ¬ te.size = 0 := by omega
          by_cases hq : q = 0
          · subst hq
            have hr0 : ∀ f : Nat → Value, Array.map f (Array.range 0) = #[] := fun f => by simp [Array.range]
            simp [Instr.makeSlice, k.run_und, hde, asInt, asIntOf, ke.run_info, ke.run_size, hwrap, hby, newRow, hr0, show IntKind.i64.wrap 0 = 0 from by decide]
          · have hze := zeros_eq ke.zv.cells (by omega) q
            rw [hzl] at hze
            simp [Instr.makeSlice, k.run_und, hde, asInt, asIntOf, ke.run_info, ke.run_size, hwrap, hby, newRow, ke.run_zero, hq, hz0, hzl, hze, show ¬ (q : Int) < 0 from by omega]
            intro hcon
            rcases Nat.mul_eq_zero.1 hcon with h | h
            · exact absurd h hq
            · exact absurd h hz0
        · intro i hi
          have hzl' : ke.zv.cells.toList.length = te.size := by simpa using hzl
          have : List.replicate q ke.zv.cells.toList = List.replicate i ke.zv.cells.toList ++ (ke.zv.cells.toList :: List.replicate (q - i - 1) ke.zv.cells.toList) := by
            rw [← List.replicate_succ, List.replicate_append_replicate]
            congr 1; omega
          simp only [List.toList_toArray]
          rw [this, List.flatten_append, List.flatten_cons]
          have hl1 : (List.flatten (List.replicate i ke.zv.cells.toList)).length = i * te.size := by simp [hzl]
          rw [List.drop_append_of_le_length (by omega), List.drop_of_length_le (by omega), List.nil_append, List.take_append_of_le_length (by omega), List.take_of_length_le (by omega)]
      split
      · intro hC
        obtain ⟨cells, hrun, hlen, hget⟩ := main hC
        obtain ⟨rfl, h0, hb, hm, hzc, hpos⟩ := hC
        have hzl : ke.zv.cells.size = te.size := by
          have := (vOk_cells X true ke.zok).length
          simpa [hzc] using this.symm
        have hY : Same X (X.row (.cells cells e (0, 0))) := Same.row X _
        refine ⟨_, X.row (.cells cells e (0, 0)), hrun X.w, ?_, hY.rel r, hY.fr⟩
        have hz := vOk_cells (X.row (.cells cells e (0, 0))) true ke.zok
        refine .sl X.w.heap.size 0 n.toNat te.size (fun i => ke.zv.cells.toList) hpos (Nat.le_refl _) (fun i _ => hz) (fun i _ => by simpa using hzl) ?_ rfl
        intro i hi j v hv
        refine at_row X ?_
        have h1 := hget i hi
        have hj : j < te.size := by
          have := (List.getElem?_eq_some_iff.1 hv).1
          simp [hzl] at this; exact this
        rw [← h1, List.getElem?_take, if_pos hj, List.getElem?_drop] at hv
        rw [Nat.zero_add]
        simpa using hv
      · intro hC
        obtain ⟨cells, hrun, hlen, hget⟩ := main hC
        obtain ⟨rfl, h0, hb, hm, hzc, hpos⟩ := hC
        have hbs : (X.new s.nx (.cells cells e (0, 0))).bs X.w.heap.size = cells.size := upd_same ..
        refine ⟨_, X.new s.nx (.cells cells e (0, 0)), hrun X.w, ?_, ?_, X.new_fr _ _ r.mu_none r.mu_lt⟩
        · refine .hs 0 n.toNat te.size _ n.toNat 0 (upd_same ..) (by simp [Cx.new]) hpos (Nat.le_refl _) (fun c hc => by injection hc) (.inr (by simp)) ?_
          rw [hbs, Nat.zero_add]
          simpa using Nat.le_of_eq hlen.symm
        · refine r.new _ _ ⟨cells.toList, (0, 0), by rw [Array.toArray_toList]; exact push_eq, .inl (Nat.le_refl _), hpos, by omega, by rw [hbs]; simp, fun j hj => ?_⟩
          rw [hget j hj]
          exact vOk_cells _ false ke.zok
    · trivial
  · trivial
end
end Go.Ab
