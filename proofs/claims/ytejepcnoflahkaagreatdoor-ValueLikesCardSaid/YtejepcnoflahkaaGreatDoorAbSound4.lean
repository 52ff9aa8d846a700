/- The symbolic evaluator: the soundness of its operations, fourth part: cuts of slices and strings, arithmetic, comparisons, conversions, lengths. -/
import Derived.Test.YtejepcnoflahkaaGreatDoorAbSound3
namespace Go.Ab
set_option linter.unusedVariables false
set_option linter.unusedSimpArgs false
section
variable {P : Program} {E : Env} {s : St} {a : Act} {X : Cx}

theorem tdOf_ok (hΓ : GOk P E.Γ) {t : Nat} {d : TD} (h : tdOf E t = some d) : ∃ ti, Nonempty (TIOk P t ti) ∧ ti.d = d := by
  unfold tdOf at h
  split at h
  · rename_i ti hti
    injection h with h
    exact ⟨ti, hΓ _ _ hti, h⟩
  · cases h

theorem ofBytes_data (b : List UInt8) : (ByteArray.mk b.toArray).size = b.length := by simp [ByteArray.size]
theorem extract_bytes (b : List UInt8) (l h : Nat) : (ByteArray.mk b.toArray).extract l h = ⟨((b.drop l).take (h - l)).toArray⟩ := by
  apply ByteArray.ext
  rw [ByteArray.data_extract]
  apply Array.ext'
  simp

theorem sliceA_sound (hΓ : GOk P E.Γ) {T : Nat} {x : AV} {lo hi : Option AV} {cx : Value} {clo chi : Option Value} (hx : Rep X false x cx)
    (hlo : (lo = none ∧ clo = none) ∨ ∃ l c, lo = some l ∧ clo = some c ∧ Rep X false l c) (hhi : (hi = none ∧ chi = none) ∨ ∃ l c, hi = some l ∧ chi = some c ∧ Rep X false l c) :
    (sliceA E s T x lo hi).sat fun v s' => s' = s ∧ ∃ cv, (Instr.sliceAt T cx clo chi none).run P X.w = .ok cv X.w ∧ Rep X false v cv := by
  unfold sliceA
  split
  · trivial
  rename_i ti hti
  obtain ⟨k⟩ := hΓ _ _ hti
  split
  · rename_i b hd
    have hde : k.d = .string := dm_str (hd ▸ k.dm)
    cases hx
    have hsz := ofBytes_data b
    have base : ∀ l h : Nat, Rep X false (.str ((b.drop l).take (h - l))) (.string ((ByteArray.mk b.toArray).extract l h)) := fun l h => by
      rw [extract_bytes]; exact .str ..
    split
    · obtain ⟨_, rfl⟩ := hlo.resolve_right (by rintro ⟨_, _, h, _⟩; cases h)
      obtain ⟨_, rfl⟩ := hhi.resolve_right (by rintro ⟨_, _, h, _⟩; cases h)
      refine ⟨rfl, _, ?_, base 0 b.length |> fun h => by simpa using h⟩
      simp [Instr.sliceAt, Instr.slice, k.run_und, hde, Instr.sliceBounds, hsz]
      rw [extract_bytes]; simp
    · rename_i kd l
      rintro ⟨h0, h1⟩
      obtain ⟨_, _, hq, rfl, hr⟩ := hlo.resolve_left (by rintro ⟨h, _⟩; cases h)
      cases hq
      obtain ⟨_, rfl⟩ := hhi.resolve_right (by rintro ⟨_, _, h, _⟩; cases h)
      cases hr
      refine ⟨rfl, .string ((ByteArray.mk b.toArray).extract l.toNat b.length), ?_, ?_⟩
      · simp [Instr.sliceAt, Instr.slice, k.run_und, hde, Instr.sliceBounds, Instr.sliceBound, asIntOf, hsz, h0, h1]
      · have := base l.toNat b.length
        rwa [show (b.drop l.toNat).take (b.length - l.toNat) = b.drop l.toNat from List.take_of_length_le (by simp)] at this
    · rename_i kd h
      rintro ⟨h0, h1⟩
      obtain ⟨_, rfl⟩ := hlo.resolve_right (by rintro ⟨_, _, h, _⟩; cases h)
      obtain ⟨_, _, hq, rfl, hr⟩ := hhi.resolve_left (by rintro ⟨h, _⟩; cases h)
      cases hq
      cases hr
      refine ⟨rfl, .string ((ByteArray.mk b.toArray).extract 0 h.toNat), ?_, ?_⟩
      · simp [Instr.sliceAt, Instr.slice, k.run_und, hde, Instr.sliceBounds, Instr.sliceBound, asIntOf, hsz, h0, h1]
      · have := base 0 h.toNat
        simpa using this
    · rename_i kd l kd' h
      rintro ⟨⟨h0, h1⟩, h2, h3⟩
      obtain ⟨_, _, hq, rfl, hr⟩ := hlo.resolve_left (by rintro ⟨h, _⟩; cases h)
      cases hq
      obtain ⟨_, _, hq, rfl, hr'⟩ := hhi.resolve_left (by rintro ⟨h, _⟩; cases h)
      cases hq
      cases hr
      cases hr'
      refine ⟨rfl, .string ((ByteArray.mk b.toArray).extract l.toNat h.toNat), ?_, base _ _⟩
      simp [Instr.sliceAt, Instr.slice, k.run_und, hde, Instr.sliceBounds, Instr.sliceBound, asIntOf, hsz, h0, h1, h2, show l ≤ ((h.toNat : Nat) : Int) from by omega, show max h 0 = h from by omega, h3]
    · trivial
  · rename_i e tag n f hd
    have hde : k.d = .slice e := dm_slice (hd ▸ k.dm)
    split
    · trivial
    rename_i te hte
    obtain ⟨ke⟩ := hΓ _ _ hte
    -- a piece of a slice that stays
    have piece : ∀ (l h : Nat), l ≤ h → h ≤ n → (l = 0 ∨ ∀ i, i < n → (f i).cells.length = te.size) → ∀ {A : Option Addr} {len cap : Nat}, Rep X false (.sl tag n f) (.slice A len cap) →
        len = n ∧ n ≤ cap ∧ Rep X false (.sl .no (h - l) fun i => f (l + i)) (.slice (if cap = l then A else A.map (·.add (l * te.size))) (h - l) (cap - l)) := by
      intro l h hlh hhn hcells A len cap hr
      cases hr with
      | snil f A ht hn =>
        have hl0 : l = 0 := by omega
        have hh0 : h = 0 := by omega
        subst hl0; subst hh0
        exact ⟨rfl, Nat.le_refl _, by simpa using .snil _ A trivial (fun h => by cases h)⟩
      | sl b o _ sz g hz hc hr hg ha ht =>
        refine ⟨rfl, hc, ?_⟩
        by_cases hln : l = 0
        · subst hln
          have e : (if cap = 0 then some (⟨b, o, none⟩ : Addr) else (some (⟨b, o, none⟩ : Addr)).map (·.add (0 * te.size))) = some ⟨b, o, none⟩ := by
            split <;> simp [add_off]
          rw [e]
          simp only [Nat.sub_zero, Nat.zero_add]
          exact .sl b o cap sz g hz (by omega) (fun i hi => hr i (by omega)) (fun i hi => hg i (by omega)) (fun i hi => ha i (by omega)) trivial
        · have hcl := hcells.resolve_left hln
          by_cases hnn : l = n
          · have e0 : h - l = 0 := by omega
            rw [e0]
            have e : ∃ A' : Addr, A'.spot = none ∧ (if cap = l then some (⟨b, o, none⟩ : Addr) else (some (⟨b, o, none⟩ : Addr)).map (·.add (l * te.size))) = some A' := by
              split
              · exact ⟨_, rfl, rfl⟩
              · exact ⟨⟨b, o + l * te.size, none⟩, rfl, by simp [add_off]⟩
            obtain ⟨⟨b', o', sp⟩, hs, e⟩ := e
            simp only at hs; subst hs
            rw [e]
            exact .sl b' o' (cap - l) 1 (fun _ => []) (by omega) (by omega) (fun i hi => by omega) (fun i hi => by omega) (fun i hi => by omega) trivial
          · have hln' : l < n := by omega
            have hsz : sz = te.size := by rw [← hg l hln', ← (hr l hln').length, hcl l hln']
            have e : (if cap = l then some (⟨b, o, none⟩ : Addr) else (some (⟨b, o, none⟩ : Addr)).map (·.add (l * te.size))) = some ⟨b, o + l * te.size, none⟩ := by
              rw [if_neg (by omega)]; simp [add_off]
            rw [e]
            refine .sl b (o + l * te.size) (cap - l) sz (fun i => g (l + i)) hz (by omega) (fun i hi => hr _ (by omega)) (fun i hi => hg _ (by omega)) (fun i hi j v hv => ?_) trivial
            have := ha (l + i) (by omega) j v hv
            rw [show o + l * te.size + i * sz + j = o + (l + i) * sz + j from by rw [Nat.add_mul, hsz]; omega]
            exact this
    have hsl : ∃ A len cap, cx = .slice A len cap := by cases hx <;> exact ⟨_, _, _, rfl⟩
    obtain ⟨A, len, cap, rfl⟩ := hsl
    split
    · obtain ⟨_, rfl⟩ := hlo.resolve_right (by rintro ⟨_, _, h, _⟩; cases h)
      obtain ⟨_, rfl⟩ := hhi.resolve_right (by rintro ⟨_, _, h, _⟩; cases h)
      obtain ⟨rfl, hc, hr⟩ := piece 0 n (by omega) (by omega) (.inl rfl) hx
      refine ⟨rfl, _, ?_, by simpa using hr⟩
      simp [Instr.sliceAt, Instr.slice, k.run_und, hde, Instr.sliceBounds, ke.run_size]
    · rename_i kd l
      rintro ⟨⟨h0, h1⟩, hcl⟩
      obtain ⟨_, _, hq, rfl, hr⟩ := hlo.resolve_left (by rintro ⟨h, _⟩; cases h)
      cases hq
      obtain ⟨_, rfl⟩ := hhi.resolve_right (by rintro ⟨_, _, h, _⟩; cases h)
      cases hr
      obtain ⟨rfl, hc, hr⟩ := piece l.toNat n (by omega) (by omega) (.inr hcl) hx
      refine ⟨rfl, _, ?_, hr⟩
      simp [Instr.sliceAt, Instr.slice, k.run_und, hde, Instr.sliceBounds, Instr.sliceBound, asIntOf, ke.run_size, h0, h1]
    · rename_i kd h
      rintro ⟨h0, h1⟩
      obtain ⟨_, rfl⟩ := hlo.resolve_right (by rintro ⟨_, _, h, _⟩; cases h)
      obtain ⟨_, _, hq, rfl, hr⟩ := hhi.resolve_left (by rintro ⟨h, _⟩; cases h)
      cases hq
      cases hr
      obtain ⟨rfl, hc, hr⟩ := piece 0 h.toNat (by omega) (by omega) (.inl rfl) hx
      refine ⟨rfl, _, ?_, by simpa using hr⟩
      have h1' : h ≤ (cap : Int) := by omega
      simp [Instr.sliceAt, Instr.slice, k.run_und, hde, Instr.sliceBounds, Instr.sliceBound, asIntOf, ke.run_size, h0, h1']
    · rename_i kd l kd' h
      rintro ⟨⟨⟨h0, h1⟩, h2, h3⟩, hcl⟩
      obtain ⟨_, _, hq, rfl, hr⟩ := hlo.resolve_left (by rintro ⟨h, _⟩; cases h)
      cases hq
      obtain ⟨_, _, hq, rfl, hr'⟩ := hhi.resolve_left (by rintro ⟨h, _⟩; cases h)
      cases hq
      cases hr
      cases hr'
      obtain ⟨rfl, hc, hr⟩ := piece l.toNat h.toNat (by omega) (by omega) (.inr hcl) hx
      refine ⟨rfl, _, ?_, hr⟩
      have h1' : h ≤ (cap : Int) := by omega
      simp [Instr.sliceAt, Instr.slice, k.run_und, hde, Instr.sliceBounds, Instr.sliceBound, asIntOf, ke.run_size, h0, h1', h2, show max h 0 = h from by omega, h3]
    · trivial
  · rename_i e b o n sz cp hd
    have hde : k.d = .slice e := dm_slice (hd ▸ k.dm)
    split
    · trivial
    rename_i te hte
    obtain ⟨ke⟩ := hΓ _ _ hte
    have piece : ∀ (l h : Nat), l ≤ h → h ≤ n → (l = 0 ∨ te.size = sz) → ∀ {A : Option Addr} {len cap : Nat}, Rep X false (.hs b o n sz cp) (.slice A len cap) →
        len = n ∧ n ≤ cap ∧ Rep X false (.hs b (o + l) (h - l) sz (cp.map (· - l))) (.slice (if cap = l then A else A.map (·.add (l * te.size))) (h - l) (cap - l)) := by
      intro l h hlh hhn hsz A len cap hr
      cases hr with
      | hs0 _ _ _ _ hz hc =>
        have hl0 : l = 0 := by omega
        have hh0 : h = 0 := by omega
        subst hl0; subst hh0
        refine ⟨rfl, Nat.le_refl _, ?_⟩
        simpa using .hs0 _ _ _ _ hz hc
      | hs _ _ _ _ _ q hb hlt hz hn hc ho hbs =>
      rename_i c
      refine ⟨rfl, hn, ?_⟩
      have hcp : ∀ d, cp.map (· - l) = some d → cap - l = d := by
        intro d hd
        cases cp with
        | none => cases hd
        | some x =>
          simp only [Option.map_some, Option.some.injEq] at hd
          have := hc x rfl
          omega
      have hbs' : (o + l + (cap - l)) * sz ≤ X.bs c := by rw [show o + l + (cap - l) = o + cap from by omega]; exact hbs
      by_cases hcl : cap = l
      · rw [if_pos hcl]
        have : h - l ≤ cap - l := by omega
        exact .hs _ _ _ _ _ q hb hlt hz this hcp (.inl (by omega)) hbs'
      · rw [if_neg hcl]
        have hq : q = o * sz := ho.resolve_left (by omega)
        have e : (some (⟨c, q, none⟩ : Addr)).map (·.add (l * te.size)) = some ⟨c, q + l * te.size, none⟩ := by simp [add_off]
        rw [e]
        have : h - l ≤ cap - l := by omega
        refine .hs _ _ _ _ _ _ hb hlt hz this hcp (.inr ?_) hbs'
        rcases hsz with rfl | hsz
        · simp [hq]
        · rw [hq, hsz, Nat.add_mul]
    have hsl : ∃ A len cap, cx = .slice A len cap := by cases hx <;> exact ⟨_, _, _, rfl⟩
    obtain ⟨A, len, cap, rfl⟩ := hsl
    split
    · obtain ⟨_, rfl⟩ := hlo.resolve_right (by rintro ⟨_, _, h, _⟩; cases h)
      obtain ⟨_, rfl⟩ := hhi.resolve_right (by rintro ⟨_, _, h, _⟩; cases h)
      obtain ⟨rfl, hc, hr⟩ := piece 0 n (by omega) (by omega) (.inl rfl) hx
      refine ⟨rfl, _, ?_, by simpa using hr⟩
      simp [Instr.sliceAt, Instr.slice, k.run_und, hde, Instr.sliceBounds, ke.run_size]
    · rename_i kd l
      rintro ⟨⟨h0, h1⟩, hcl⟩
      obtain ⟨_, _, hq, rfl, hr⟩ := hlo.resolve_left (by rintro ⟨h, _⟩; cases h)
      cases hq
      obtain ⟨_, rfl⟩ := hhi.resolve_right (by rintro ⟨_, _, h, _⟩; cases h)
      cases hr
      obtain ⟨rfl, hc, hr⟩ := piece l.toNat n (by omega) (by omega) (.inr hcl) hx
      refine ⟨rfl, _, ?_, hr⟩
      simp [Instr.sliceAt, Instr.slice, k.run_und, hde, Instr.sliceBounds, Instr.sliceBound, asIntOf, ke.run_size, h0, h1]
    · rename_i kd h
      rintro ⟨⟨h0, h1⟩, hcl⟩
      obtain ⟨_, rfl⟩ := hlo.resolve_right (by rintro ⟨_, _, h, _⟩; cases h)
      obtain ⟨_, _, hq, rfl, hr⟩ := hhi.resolve_left (by rintro ⟨h, _⟩; cases h)
      cases hq
      cases hr
      obtain ⟨rfl, hc, hr⟩ := piece 0 h.toNat (by omega) (by omega) (.inl rfl) hx
      refine ⟨rfl, _, ?_, by simpa using hr⟩
      have h1' : h ≤ (cap : Int) := by omega
      simp [Instr.sliceAt, Instr.slice, k.run_und, hde, Instr.sliceBounds, Instr.sliceBound, asIntOf, ke.run_size, h0, h1']
    · rename_i kd l kd' h
      rintro ⟨⟨⟨h0, h1⟩, h2, h3⟩, hcl⟩
      obtain ⟨_, _, hq, rfl, hr⟩ := hlo.resolve_left (by rintro ⟨h, _⟩; cases h)
      cases hq
      obtain ⟨_, _, hq, rfl, hr'⟩ := hhi.resolve_left (by rintro ⟨h, _⟩; cases h)
      cases hq
      cases hr
      cases hr'
      obtain ⟨rfl, hc, hr⟩ := piece l.toNat h.toNat (by omega) (by omega) (.inr hcl) hx
      refine ⟨rfl, _, ?_, hr⟩
      have h1' : h ≤ (cap : Int) := by omega
      simp [Instr.sliceAt, Instr.slice, k.run_und, hde, Instr.sliceBounds, Instr.sliceBound, asIntOf, ke.run_size, h0, h1', h2, show max h 0 = h from by omega, h3]
    · trivial
  · trivial

/-! ### Comparisons of structs -/
def leafDesc (x : AV) (td : TypeDesc) : Prop :=
  match x with
  | .int .. => ∃ k, td = .int k
  | .bool _ => td = .bool
  | .str _ => td = .string
  | _ => False
theorem leafEq_sound {p : Bool} (d : Nat) {t : Nat} {x y : AV} {cx cy : Value} {b : Bool} (hx : Rep X p x cx) (hy : Rep X p y cy) (h : leafEq x y = some b) {td : TypeDesc} (hu : P.underlying t = some td)
    (hk : leafDesc x td) : (Op.equalIn (d + 1) t cx cy).run P X.w = .ok b X.w := by
  cases x <;> cases y <;> simp only [leafEq] at h <;> try (cases h; done)
  · split at h
    · rename_i hkk
      injection h with h; subst h
      simp only [decide_eq_true_eq] at hkk
      subst hkk
      cases hx; cases hy
      obtain ⟨k', rfl⟩ := hk
      exact run_equalIn_int _ d t _ k' _ _ hu
    · cases h
  · injection h with h; subst h
    cases hx; cases hy
    simp only [leafDesc] at hk; subst hk
    exact run_equalIn_bool' _ d t _ _ hu
  · injection h with h; subst h
    cases hx; cases hy
    simp only [leafDesc] at hk; subst hk
    rw [run_equalIn_string _ d t _ _ hu]
    simp

theorem cellsAt_part {p : Bool} (hΓ : GOk P E.Γ) {t : Nat} {ti : TI} (k : TIOk P t ti) {cs : List AV} {vs : List Value} (h : RepL X p cs vs) {off : Nat} {v : AV} (hv : cellsAt ti.d.agg ti.size cs off = some v) :
    ∃ cv, (part t vs.toArray off).run P X.w = .ok cv X.w ∧ Rep X p v cv := part_sound k h hv

theorem eqFs_sound {p : Bool} (hΓ : GOk P E.Γ) {rec : Nat → AV → AV → Option Bool} (D : Nat)
    (hrec : ∀ t {x y : AV} {cx cy : Value} {b : Bool}, Rep X p x cx → Rep X p y cy → rec t x y = some b → (Op.equalIn D t cx cy).run P X.w = .ok b X.w) :
    ∀ (fds : List Field) {cs ds : List AV} {vs ws : List Value} {b : Bool}, RepL X p cs vs → RepL X p ds ws →
    eqFs E rec (fds.map fun f => (f.type, f.offset, f.name == "_")) cs ds = some b → (Op.eqFields D vs.toArray ws.toArray fds).run P X.w = .ok b X.w
  | [], cs, ds, vs, ws, b, hx, hy, h => by
    simp only [List.map_nil, eqFs, Option.some.injEq] at h
    subst h
    simp [Op.eqFields]
  | f :: fds, cs, ds, vs, ws, b, hx, hy, h => by
    simp only [List.map_cons, eqFs] at h
    split at h
    · rename_i hb
      have hb' : f.name = "_" := by simpa using hb
      simp only [Op.eqFields, hb', ne_eq, not_true, if_false]
      exact eqFs_sound hΓ D hrec fds hx hy h
    · rename_i hb
      have hb' : f.name ≠ "_" := by simpa using hb
      split at h
      · cases h
      rename_i ti hti
      obtain ⟨k⟩ := hΓ _ _ hti
      split at h
      · rename_i u v hu hv
        obtain ⟨cu, h1, h2⟩ := cellsAt_part hΓ k hx hu
        obtain ⟨cv, h3, h4⟩ := cellsAt_part hΓ k hy hv
        split at h
        · rename_i bp bq hp hq
          injection h with h; subst h
          have e1 := hrec f.type h2 h4 hp
          have e2 := eqFs_sound hΓ D hrec fds hx hy hq
          simp only [Op.eqFields, if_pos hb', Sem.run_bind, h1, h3, e1, Result.andThen_ok, Sem.run_ite, Sem.run_pure, e2]
          cases bp <;> simp
        · cases h
      · cases h
theorem eqA_sound {p : Bool} (hΓ : GOk P E.Γ) : ∀ (d t : Nat) {x y : AV} {cx cy : Value} {b : Bool}, Rep X p x cx → Rep X p y cy → eqA E d t x y = some b → ∀ D, d ≤ D → (Op.equalIn D t cx cy).run P X.w = .ok b X.w
  | 0, t, x, y, cx, cy, b, hx, hy, h => by simp [eqA] at h
  | d + 1, t, x, y, cx, cy, b, hx, hy, h => by
    intro D hD
    obtain ⟨D, rfl⟩ : ∃ D', D = D' + 1 := ⟨D - 1, by omega⟩
    simp only [eqA] at h
    split at h
    · cases h
    rename_i ti hti
    obtain ⟨k⟩ := hΓ _ _ hti
    split at h
    · rename_i fs hd
      split at h
      · rename_i cs ds heq
        obtain ⟨fds, hde, hg⟩ := dm_struct (hd ▸ k.dm)
        cases hx with | agg hx =>
        cases hy with | agg hy =>
        have hf : P.fieldsOf t = fds := by simp [Program.fieldsOf, k.und, hde]
        rw [run_equalIn_struct _ D t _ _ (by rw [hf, k.und, hde]) (k.eqo heq).2, hf]
        exact eqFs_sound hΓ D (fun t' {_ _ _ _ _} hx' hy' h' => eqA_sound hΓ d t' hx' hy' h' D (by omega)) fds.toList hx hy (by rw [hg]; exact h)
      · cases h
    · rename_i kk hd
      split at h
      · exact leafEq_sound D hx hy h k.und ⟨kk, dm_int (hd ▸ k.dm)⟩
      · cases h
    · rename_i hd
      split at h
      · exact leafEq_sound D hx hy h k.und (dm_bool (hd ▸ k.dm))
      · cases h
    · rename_i hd
      split at h
      · exact leafEq_sound D hx hy h k.und (dm_str (hd ▸ k.dm))
      · cases h
    · cases h

/-! ### Operators -/
theorem eqGuard_leaf {op : BinOp} {t : TypeId} {x y : Operand} {cx cy : Value} (h : (∀ cs, cx ≠ .agg cs) ∧ cx ≠ .nilIface) (w : World) : (eqGuard op t x y cx cy).run P w = .ok () w := by
  unfold eqGuard
  cases op <;> simp only [Bool.not_false, Bool.not_true, if_true, Bool.false_eq_true, if_false, Sem.run_pure] <;> try rfl
  all_goals
    cases cx <;> first | rfl | exact absurd rfl (h.1 _) | exact absurd rfl h.2 | (cases cy <;> rfl)

theorem eqA_guard (hΓ : GOk P E.Γ) (d : Nat) {T : Nat} {cs ds : List AV} {b : Bool} (hb : eqA E (d + 1) T (.agg cs) (.agg ds) = some b) : P.eqGuardType P.depth T = false := by
  simp only [eqA] at hb
  split at hb
  · cases hb
  rename_i ti hti
  obtain ⟨k⟩ := hΓ _ _ hti
  split at hb
  · split at hb
    · rename_i heq; exact (k.eqo heq).1
    · cases hb
  all_goals first | (cases hb; done) | (split at hb <;> cases hb; done)
theorem run_eqlOf {T : TypeId} {x y : Value} {b : Bool} {w : World} (hb : binOp .eql T x y = (do Pure.pure (.bool (← Op.equal T x y)) : Go.Sem Value)) (h : ∀ D, (Op.equalIn (D + 1) T x y).run P w = .ok b w) :
    (binOp .eql T x y).run P w = .ok (.bool b) w := by
  have h' : (Op.equal T x y).run P w = .ok b w := h 9999
  rw [hb, Sem.run_bind, h']
  rfl
theorem run_neqOf {T : TypeId} {x y : Value} {b : Bool} {w : World} (hb : binOp .neq T x y = (do Pure.pure (.bool (!(← Op.equal T x y))) : Go.Sem Value)) (h : ∀ D, (Op.equalIn (D + 1) T x y).run P w = .ok b w) :
    (binOp .neq T x y).run P w = .ok (.bool (!b)) w := by
  have h' : (Op.equal T x y).run P w = .ok b w := h 9999
  rw [hb, Sem.run_bind, h']
  rfl
theorem run_eq_nilp {T e : TypeId} {w : World} (hu : P.underlying T = some (.pointer e)) (b : Option Addr) (D : Nat) : (Op.equalIn (D + 1) T (.pointer none) (.pointer b)).run P w = .ok b.isNone w := by
  simp [Op.equalIn, run_underlying hu]
theorem run_eq_ptr_nil {T e : TypeId} {w : World} (hu : P.underlying T = some (.pointer e)) (b : Addr) (D : Nat) : (Op.equalIn (D + 1) T (.pointer (some b)) (.pointer none)).run P w = .ok false w := by
  simp [Op.equalIn, run_underlying hu]
theorem run_eq_nilf {T : TypeId} {q1 q2 q3} {w : World} (hu : P.underlying T = some (.func q1 q2 q3)) (D : Nat) : (Op.equalIn (D + 1) T .nilFunc .nilFunc).run P w = .ok true w := by
  simp [Op.equalIn, run_underlying hu]
theorem run_eq_clo_nil {T : TypeId} {q1 q2 q3} {w : World} (hu : P.underlying T = some (.func q1 q2 q3)) (f : Fn) (a b : Array Value) (D : Nat) : (Op.equalIn (D + 1) T (.func f a b) .nilFunc).run P w = .ok false w := by
  simp [Op.equalIn, run_underlying hu]
theorem run_eq_bool {T : TypeId} {w : World} (hu : P.underlying T = some .bool) (a b : Bool) (D : Nat) : (Op.equalIn (D + 1) T (.bool a) (.bool b)).run P w = .ok (a == b) w := run_equalIn_bool' w D T a b hu

theorem run_eq_nili {T : TypeId} {ms} {w : World} (hu : P.underlying T = some (.interface ms)) (D : Nat) : (Op.equalIn (D + 1) T .nilIface .nilIface).run P w = .ok true w := by
  simp [Op.equalIn, run_underlying hu]
theorem run_eq_ifc_nil {T : TypeId} {ms} {w : World} (hu : P.underlying T = some (.interface ms)) (u : TypeId) (v : Value) (D : Nat) : (Op.equalIn (D + 1) T (.iface u v) .nilIface).run P w = .ok false w := by
  simp [Op.equalIn, run_underlying hu]
theorem eqGuard_const {op : BinOp} {t : TypeId} {x y : Operand} (h : eitherConst x y = true) (w : World) : (eqGuard op t x y .nilIface .nilIface).run P w = .ok () w := by
  unfold eqGuard
  unfold eitherConst at h
  cases op <;> simp only [Bool.not_false, Bool.not_true, if_true, Bool.false_eq_true, if_false, Sem.run_pure] <;> try rfl
  all_goals
    cases x <;> cases y <;> simp_all [isConst]
theorem eqGuard_ifc {op : BinOp} {t u : TypeId} {x y : Operand} {v : Value} (w : World) : (eqGuard op t x y (.iface u v) .nilIface).run P w = .ok () w := by
  unfold eqGuard
  cases op <;> simp only [Bool.not_false, Bool.not_true, if_true, Bool.false_eq_true, if_false, Sem.run_pure] <;> rfl

theorem binA_sound (hΓ : GOk P E.Γ) {op : BinOp} {T : Nat} {x y : AV} {ox oy : Operand} {c : Bool} (hc : c = eitherConst ox oy) {cx cy : Value} (hx : Rep X false x cx) (hy : Rep X false y cy) :
    (binA E s op T x y c).sat fun v s' => s' = s ∧ ∃ cv, (do eqGuard op T ox oy cx cy; binOp op T cx cy : Go.Sem Value).run P X.w = .ok cv X.w ∧ Rep X false v cv := by
  unfold binA
  split
  · rename_i k i k' j
    cases hx; cases hy
    have hg := fun w => eqGuard_leaf (P := P) (op := op) (t := T) (x := ox) (y := oy) (cx := .int k i) (cy := .int k' j) ⟨fun _ => by simp, by simp⟩ w
    split
    · intro h0
      refine ⟨rfl, _, ?_, .int ..⟩
      simp [hg, binOp, Op.shift, show ¬ j < 0 from by omega]
    · intro h0
      refine ⟨rfl, _, ?_, .int ..⟩
      simp [hg, binOp, Op.shift, show ¬ j < 0 from by omega]
    · split
      · trivial
      · rename_i hs1 hs2 hk
        simp only [decide_eq_true_eq] at hk
        subst hk
        split
        all_goals first
          | trivial
          | (intro hb; refine ⟨rfl, _, ?_, .int ..⟩; simp [hg, binOp, Op.intDiv, hb]; done)
          | (refine ⟨rfl, _, ?_, .int ..⟩; simp [hg, binOp, Op.intArith, Op.intBits]; done)
          | (refine ⟨rfl, _, ?_, .bool ..⟩; simp [hg, binOp, Op.intCmp]; done)
          | exact absurd rfl hs1
          | exact absurd rfl hs2
  · rename_i b c
    cases hx; cases hy
    have hg := fun w => eqGuard_leaf (P := P) (op := op) (t := T) (x := ox) (y := oy) (cx := .string ⟨b.toArray⟩) (cy := .string ⟨c.toArray⟩) ⟨fun _ => by simp, by simp⟩ w
    split
    · intro hl
      have hcat : ByteArray.mk b.toArray ++ ByteArray.mk c.toArray = ByteArray.mk (b ++ c).toArray := by
        apply ByteArray.ext
        rw [ByteArray.data_append]
        simp
      refine ⟨rfl, .string ⟨(b ++ c).toArray⟩, ?_, .str ..⟩
      have hmax : IntKind.i64.max = 9223372036854775807 := by decide
      have h2 : ¬ (((b.length + c.length : Nat) : Int) > 9223372036854775807) := by omega
      simp only [Sem.run_bind, hg, Result.andThen_ok, binOp, Op.stringOp, ofBytes_data, hmax, if_neg h2, hcat, Sem.run_pure]
    all_goals first
      | trivial
      | (refine ⟨rfl, _, ?_, .bool ..⟩; simp [hg, binOp, Op.stringOp]; done)
  · rename_i b c
    cases hx; cases hy
    have hg := fun w => eqGuard_leaf (P := P) (op := op) (t := T) (x := ox) (y := oy) (cx := .bool b) (cy := .bool c) ⟨fun _ => by simp, by simp⟩ w
    split
    · rename_i ht
      obtain ⟨ti, ⟨k⟩, hd⟩ := tdOf_ok hΓ ht
      have hkd : k.d = .bool := dm_bool (hd ▸ k.dm)
      have hu : P.underlying T = some .bool := by rw [k.und, hkd]
      refine ⟨rfl, _, ?_, .bool ..⟩
      rw [Sem.run_bind, hg, Result.andThen_ok, run_eqlOf (by simp only [binOp]) (run_eq_bool hu b c)]
    · rename_i ht
      obtain ⟨ti, ⟨k⟩, hd⟩ := tdOf_ok hΓ ht
      have hkd : k.d = .bool := dm_bool (hd ▸ k.dm)
      have hu : P.underlying T = some .bool := by rw [k.und, hkd]
      refine ⟨rfl, _, ?_, .bool ..⟩
      rw [Sem.run_bind, hg, Result.andThen_ok, run_neqOf (by simp only [binOp]) (run_eq_bool hu b c)]
    · trivial
  · rename_i cs ds
    cases hx with | agg hx =>
    cases hy with | agg hy =>
    rename_i vs ws
    have key : ∀ b, eqA E 50 T (.agg cs) (.agg ds) = some b → P.eqGuardType P.depth T = false ∧ (Op.equalIn 10000 T (.agg vs.toArray) (.agg ws.toArray)).run P X.w = .ok b X.w := by
      intro b hb
      refine ⟨?_, eqA_sound hΓ 50 T (.agg hx) (.agg hy) hb 10000 (by omega)⟩
      exact eqA_guard hΓ 49 hb
    split
    · split
      · rename_i b hb
        obtain ⟨h1, h2⟩ := key b hb
        refine ⟨rfl, .bool b, ?_, .bool ..⟩
        simp only [Sem.run_bind, run_eqGuard_agg X.w _ _ _ _ _ _ h1, Result.andThen_ok, run_eql_struct, h2]
      · trivial
    · split
      · rename_i b hb
        obtain ⟨h1, h2⟩ := key b hb
        refine ⟨rfl, .bool (!b), ?_, .bool ..⟩
        simp only [Sem.run_bind, run_eqGuard_agg X.w _ _ _ _ _ _ h1, Result.andThen_ok, run_neq_struct, h2]
      · trivial
    · trivial
  · cases hx; cases hy
    have hg := fun w => eqGuard_leaf (P := P) (op := op) (t := T) (x := ox) (y := oy) (cx := .pointer none) (cy := .pointer none) ⟨fun _ => by simp, by simp⟩ w
    split
    all_goals first
      | trivial
      | (rename_i ht; obtain ⟨ti, ⟨k⟩, hd⟩ := tdOf_ok hΓ ht; have hkd := dm_ptr (hd ▸ k.dm); have hu := k.und; rw [hkd] at hu
         refine ⟨rfl, _, ?_, .bool ..⟩; rw [Sem.run_bind, hg, Result.andThen_ok]; first | exact run_eqlOf (by simp only [binOp]) (run_eq_nilp hu none) | exact run_neqOf (by simp only [binOp]) (run_eq_nilp hu none))
  · cases hx with | ptr off hb =>
    rename_i b
    cases hy
    split
    all_goals first
      | trivial
      | (rename_i ht; obtain ⟨ti, ⟨k⟩, hd⟩ := tdOf_ok hΓ ht; have hkd := dm_ptr (hd ▸ k.dm); have hu := k.und; rw [hkd] at hu
         refine ⟨rfl, _, ?_, .bool ..⟩; rw [Sem.run_bind, eqGuard_leaf ⟨fun _ => by simp, by simp⟩, Result.andThen_ok]; first | exact run_eqlOf (by simp only [binOp]) (run_eq_ptr_nil hu _) | exact run_neqOf (by simp only [binOp]) (run_eq_ptr_nil hu _))
  · cases hx; cases hy
    have hg := fun w => eqGuard_leaf (P := P) (op := op) (t := T) (x := ox) (y := oy) (cx := .nilFunc) (cy := .nilFunc) ⟨fun _ => by simp, by simp⟩ w
    split
    all_goals first
      | trivial
      | (rename_i ht; obtain ⟨ti, ⟨k⟩, hd⟩ := tdOf_ok hΓ ht; have hu := k.und; obtain ⟨q1, q2, q3, hq⟩ := dm_func (hd ▸ k.dm); rw [hq] at hu
         refine ⟨rfl, _, ?_, .bool ..⟩; rw [Sem.run_bind, hg, Result.andThen_ok]; first | exact run_eqlOf (by simp only [binOp]) (run_eq_nilf hu) | exact run_neqOf (by simp only [binOp]) (run_eq_nilf hu))
  · cases hx with | clo h1 h2 =>
    rename_i f fv cv
    cases hy
    split
    all_goals first
      | trivial
      | (rename_i ht; obtain ⟨ti, ⟨k⟩, hd⟩ := tdOf_ok hΓ ht; have hu := k.und; obtain ⟨q1, q2, q3, hq⟩ := dm_func (hd ▸ k.dm); rw [hq] at hu
         refine ⟨rfl, _, ?_, .bool ..⟩; rw [Sem.run_bind, eqGuard_leaf ⟨fun _ => by simp, by simp⟩, Result.andThen_ok]; first | exact run_eqlOf (by simp only [binOp]) (run_eq_clo_nil hu _ _ _) | exact run_neqOf (by simp only [binOp]) (run_eq_clo_nil hu _ _ _))
  · cases hx; cases hy
    cases c with
    | false => trivial
    | true =>
      simp only
      split
      all_goals first
        | trivial
        | (rename_i ht; obtain ⟨ti, ⟨k⟩, hd⟩ := tdOf_ok hΓ ht; have hu := k.und; obtain ⟨q1, hq⟩ := dm_iface (hd ▸ k.dm); rw [hq] at hu
           refine ⟨rfl, _, ?_, .bool ..⟩; rw [Sem.run_bind, eqGuard_const hc.symm, Result.andThen_ok]; first | exact run_eqlOf (by simp only [binOp]) (run_eq_nili hu) | exact run_neqOf (by simp only [binOp]) (run_eq_nili hu))
  · cases hx with | ifc h1 =>
    rename_i f fv
    cases hy
    split
    all_goals first
      | trivial
      | (rename_i ht; obtain ⟨ti, ⟨k⟩, hd⟩ := tdOf_ok hΓ ht; have hu := k.und; obtain ⟨q1, hq⟩ := dm_iface (hd ▸ k.dm); rw [hq] at hu
         refine ⟨rfl, _, ?_, .bool ..⟩; rw [Sem.run_bind, eqGuard_ifc, Result.andThen_ok]; first | exact run_eqlOf (by simp only [binOp]) (run_eq_ifc_nil hu _ _) | exact run_neqOf (by simp only [binOp]) (run_eq_ifc_nil hu _ _))
  · trivial

theorem unA_sound {op : UnOp} {x : AV} {cx : Value} (hx : Rep X false x cx) :
    (unA s op x).sat fun v s' => s' = s ∧ ∃ cv, (Op.unary op cx).run P X.w = .ok cv X.w ∧ Rep X false v cv := by
  unfold unA
  split
  · cases hx; exact ⟨rfl, _, by simp [Op.unary], .bool ..⟩
  · cases hx; exact ⟨rfl, _, by simp [Op.unary, Op.intArith], .int ..⟩
  · cases hx; exact ⟨rfl, _, by simp [Op.unary, Op.intBits], .int ..⟩
  · trivial
end
end Go.Ab
