/- The symbolic evaluator: the soundness of its operations, sixth part: appending; and all operations together. -/
import Derived.Test.YtejepcnoflahkaaGreatDoorAbSound5
namespace Go.Ab
set_option linter.unusedVariables false
set_option linter.unusedSimpArgs false

/-! ### A slice's cells in a row -/
theorem fm_len {g : Nat → List Value} {sz : Nat} : ∀ n, (∀ i, i < n → (g i).length = sz) → ((List.range n).flatMap g).length = n * sz
  | 0, _ => by simp
  | n + 1, h => by
    rw [List.range_succ, List.flatMap_append, List.length_append, fm_len n (fun i hi => h i (by omega))]
    simp [h n (Nat.lt_succ_self n), Nat.succ_mul]
theorem fm_get {g : Nat → List Value} {sz : Nat} : ∀ n, (∀ i, i < n → (g i).length = sz) → ∀ i, i < n → (((List.range n).flatMap g).drop (i * sz)).take sz = g i
  | 0, _, i, hi => by omega
  | n + 1, h, i, hi => by
    have hl := fm_len n (fun i hi => h i (by omega))
    rw [List.range_succ, List.flatMap_append]
    by_cases hin : i < n
    · have : i * sz + sz ≤ n * sz := by
        have := Nat.mul_le_mul_right sz (show i + 1 ≤ n by omega)
        rwa [Nat.succ_mul] at this
      rw [List.drop_append_of_le_length (by omega), List.take_append_of_le_length (by rw [List.length_drop, hl]; omega)]
      exact fm_get n (fun i hi => h i (by omega)) i hin
    · have : i = n := by omega
      subst this
      rw [List.drop_append, List.drop_of_length_le (by omega), hl, Nat.sub_self, List.nil_append, List.drop_zero]
      simp only [List.flatMap_cons, List.flatMap_nil, List.append_nil]
      exact List.take_of_length_le (by rw [h i (by omega)]; exact Nat.le_refl _)

section
variable {P : Program} {E : Env} {s : St} {a : Act} {X : Cx}

theorem flat_of {p : Bool} {tag : Tag} {n size : Nat} {f : Nat → AV} {A : Option Addr} {len cap : Nat} (h : Rep X p (.sl tag n f) (.slice A len cap)) (hsz : ∀ i, i < n → (f i).cells.length = size) :
    len = n ∧ n ≤ cap ∧ ∃ cs : List Value, cs.length = n * size ∧ (A = none → n = 0 ∧ cap = 0) ∧ (∀ ad, A = some ad → (cs ≠ [] → ad.spot = none) ∧ ∀ j v, cs[j]? = some v → X.at_ ad.block (ad.off + j) v) ∧ ∀ i, i < n → RepL X true (f i).cells ((cs.drop (i * size)).take size) := by
  cases h with
  | snil f A ht hn => exact ⟨rfl, Nat.le_refl _, [], by simp, (fun _ => ⟨rfl, rfl⟩), (fun ad h => ⟨fun h => absurd rfl h, fun j v hv => by simp at hv⟩), (fun i hi => by omega)⟩
  | sl b o _ sz g hz hc hr hg ha ht =>
    refine ⟨rfl, hc, (List.range n).flatMap g, ?_, (fun h => by cases h), ?_, ?_⟩
    · by_cases hn : n = 0
      · subst hn; simp
      · have : sz = size := by rw [← hg 0 (by omega), ← (hr 0 (by omega)).length, hsz 0 (by omega)]
        rw [← this]; exact fm_len n hg
    · rintro ad hA
      cases hA
      refine ⟨fun _ => rfl, fun j v hv => ?_⟩
      have hj := (List.getElem?_eq_some_iff.1 hv).1
      rw [fm_len n hg] at hj
      have hi : j / sz < n := by rw [Nat.div_lt_iff_lt_mul hz]; exact hj
      have hq : j % sz < sz := Nat.mod_lt _ hz
      have hjj : j / sz * sz + j % sz = j := by rw [Nat.mul_comm]; exact Nat.div_add_mod j sz
      have h1 := fm_get n hg _ hi
      have h2 : (g (j / sz))[j % sz]? = some v := by
        rw [← h1, List.getElem?_take, if_pos hq, List.getElem?_drop, hjj]; exact hv
      have := ha _ hi _ v h2
      rwa [Nat.add_assoc, hjj] at this
    · intro i hi
      have : sz = size := by rw [← hg i hi, ← (hr i hi).length, hsz i hi]
      rw [← this, fm_get n hg i hi]
      exact hr i hi
theorem rep_of_flat {p : Bool} {tag : Tag} {n size : Nat} {f : Nat → AV} {b cap : Nat} {cs : List Value} (h0 : 0 < size) (hl : cs.length = n * size) (hc : n ≤ cap) (ha : ∀ j v, cs[j]? = some v → X.at_ b j v)
    (hr : ∀ i, i < n → RepL X true (f i).cells ((cs.drop (i * size)).take size)) (ht : TagOk X p tag b 0 cap size n) : Rep X p (.sl tag n f) (.slice (some ⟨b, 0, none⟩) n cap) := by
  refine .sl b 0 cap size (fun i => (cs.drop (i * size)).take size) h0 hc hr ?_ ?_ ht
  · intro i hi
    have : i * size + size ≤ n * size := by
      have := Nat.mul_le_mul_right size (show i + 1 ≤ n by omega)
      rwa [Nat.succ_mul] at this
    simp; omega
  · intro i hi j v hv
    rw [List.getElem?_take] at hv
    split at hv
    · rw [List.getElem?_drop] at hv
      have := ha _ _ hv
      rwa [Nat.zero_add]
    · cases hv
/-- two rows, one behind the other -/
theorem join_pieces {Y : Cx} {n m size : Nat} {f g : Nat → AV} {cs ds : List Value} (hl : cs.length = n * size) (hf : ∀ i, i < n → RepL Y true (f i).cells ((cs.drop (i * size)).take size)) (hlm : ds.length = m * size) (hg : ∀ i, i < m → RepL Y true (g i).cells ((ds.drop (i * size)).take size)) :
    ∀ i, i < n + m → RepL Y true (joinF n f g i).cells (((cs ++ ds).drop (i * size)).take size) := by
  intro i hi
  by_cases hin : i < n
  · have e : joinF n f g i = f i := by simp [joinF, Nat.blt_eq, show Nat.blt i n = true from by simpa [Nat.blt_eq] using hin]
    have : i * size + size ≤ n * size := by
      have := Nat.mul_le_mul_right size (show i + 1 ≤ n by omega)
      rwa [Nat.succ_mul] at this
    rw [e, List.drop_append_of_le_length (by omega), List.take_append_of_le_length (by simp; omega)]
    exact hf i hin
  · have hb : Nat.blt i n = false := by
      cases hb : Nat.blt i n with
      | false => rfl
      | true => exact absurd (by simpa [Nat.blt_eq] using hb) hin
    have e : joinF n f g i = g (i - n) := by simp [joinF, hb]
    have hle : n * size ≤ i * size := Nat.mul_le_mul_right size (by omega)
    rw [e, List.drop_append, List.drop_of_length_le (by omega), List.nil_append, hl, ← Nat.sub_mul]
    exact hg _ (by omega)

theorem run_firstCells {size n : Nat} {A : Option Addr} {cap : Nat} {cs : List Value} (hl : cs.length = n * size) (hnil : A = none → n = 0 ∧ cap = 0) (hat : ∀ ad, A = some ad → (cs ≠ [] → ad.spot = none) ∧ ∀ j v, cs[j]? = some v → X.at_ ad.block (ad.off + j) v)
    (w : World) (hw : ∀ b o v, X.at_ b o v → w.cell? ⟨b, o, none⟩ = some v) : (Builtin.firstCells size n (.slice A n cap)).run P w = .ok cs.toArray w := by
  cases A with
  | none =>
    obtain ⟨rfl, rfl⟩ := hnil rfl
    have : cs = [] := List.eq_nil_of_length_eq_zero (by simpa using hl)
    subst this
    rfl
  | some ad =>
    obtain ⟨b, o, sp⟩ := ad
    obtain ⟨h1, h2⟩ := hat _ rfl
    by_cases h0 : cs = []
    · subst h0
      have : n * size = 0 := by simpa using hl.symm
      simp only [Builtin.firstCells, this]
      rfl
    have h1 := h1 h0
    simp only at h1; subst h1
    have := run_loadCells_list (P := P) w ⟨b, o, none⟩ cs (fun j v hv => by rw [add_off]; exact hw _ _ _ (h2 j v hv))
    rw [hl] at this
    exact this

theorem Ext2.tok {Y : Cx} {U : Nat} (t v : Nat) (e : Ext X Y) (hμ : Y.μ = X.μ) (hτ : ∀ u, u ≠ t → Y.τ u = X.τ u) (hκ : ∀ u, u ≠ t → Y.κ u = X.κ u) (hv : Y.κ t = some (v, U))
    (hold : X.κ t = none ∨ ∃ n, X.κ t = some (n, U) ∧ n ≤ v ∧ (n = v → Y.τ t = X.τ t)) (hs : X.w.heap.size ≤ Y.w.heap.size) (hb : Y.bs = X.bs := by rfl) : Ext2 X Y where
  bs := fun b _ => by rw [hb]
  lt := hs
  at_ := e
  mu := fun i b h => by rw [hμ]; exact h
  nil := fun p u h => by
    cases u with
    | no => trivial
    | nil => trivial
    | tight => trivial
    | tok u =>
      obtain ⟨h1, c, U', h2, h3⟩ := h
      by_cases hu : u = t
      · subst hu
        rcases hold with h | ⟨n, h, hn, hs⟩
        · rw [h] at h2; cases h2
        · have hnc : n = c := by rw [h] at h2; exact congrArg Prod.fst (Option.some.inj h2)
          exact ⟨h1, v, U, hv, fun h0 => by
            have : n = v := by omega
            rw [hs this]; exact h3 (by omega)⟩
      · exact ⟨h1, c, U', (hκ u hu).trans h2, fun h0 => (hτ u hu).trans (h3 h0)⟩
  tag := fun p u b o cap sz len h => by
    cases u with
    | no => trivial
    | nil => exact h
    | tight => exact h
    | tok u =>
      obtain ⟨h1, c, U', h2, h3, h4⟩ := h
      by_cases hu : u = t
      · subst hu
        rcases hold with h | ⟨n, h, hn, hs⟩
        · rw [h] at h2; cases h2
        · have hnc : n = c := by rw [h] at h2; exact congrArg Prod.fst (Option.some.inj h2)
          exact ⟨h1, v, U, hv, by omega, fun h0 => by
            have hnv : n = v := by omega
            rw [hs hnv]; exact h4 (by omega)⟩
      · exact ⟨h1, c, U', (hκ u hu).trans h2, h3, fun h0 => by rw [hτ u hu]; exact h4 h0⟩

theorem run_append_fits {T xT : Nat} {ti xi te : TI} (k : TIOk P T ti) (kx : TIOk P xT xi) {e : Nat} (hd : ti.d = .slice e) (ke : TIOk P e te) (hx : (∃ xe, xi.d = .slice xe) ∨ xi.d = .str) {q : Array TypeId} (h0 : q[0]? = some T) (h1 : q[1]? = some xT)
    {A : Option Addr} {n m cap : Nat} {cy : Value} {ds : List Value} {w : World} (hY : ∀ w, (Builtin.lenOf cy).run P w = .ok m w) (hB : (Builtin.firstCells te.size m cy).run P w = .ok ds.toArray w) (hfit : n + m ≤ cap) (t : TypeId) :
    (Builtin.append_ q t #[.slice A n cap, cy]).run P w = match A with
      | some ad => ((storeCells (ad.add (n * te.size)) ds).run P w).andThen fun _ w' => .ok (.slice A (n + m) cap) w'
      | none => .ok (.slice A (n + m) cap) w := by
  have hk : k.d = .slice e := dm_slice (hd ▸ k.dm)
  have hkx : (∃ xe, kx.d = .slice xe) ∨ kx.d = .string := by
    rcases hx with ⟨xe, h⟩ | h
    · exact .inl ⟨xe, dm_slice (h ▸ kx.dm)⟩
    · exact .inr (dm_str (h ▸ kx.dm))
  rcases hkx with ⟨xe, hkx⟩ | hkx <;> cases A <;> simp [Builtin.append_, h0, h1, k.run_und, kx.run_und, hk, hkx, ke.run_size, hY, hfit, hB]
theorem run_append_grows {T xT : Nat} {ti xi te : TI} (k : TIOk P T ti) (kx : TIOk P xT xi) {e : Nat} (hd : ti.d = .slice e) (ke : TIOk P e te) (hx : (∃ xe, xi.d = .slice xe) ∨ xi.d = .str) {q : Array TypeId} (h0 : q[0]? = some T) (h1 : q[1]? = some xT)
    {A : Option Addr} {n m cap : Nat} {cy : Value} {cs ds : List Value} {w : World} (hY : ∀ w, (Builtin.lenOf cy).run P w = .ok m w) (hA : ∀ w', (∀ c, w'.cell? c = w.cell? c) → (Builtin.firstCells te.size n (.slice A n cap)).run P w' = .ok cs.toArray w') (hB : ∀ w', (∀ c, w'.cell? c = w.cell? c) → (Builtin.firstCells te.size m cy).run P w' = .ok ds.toArray w')
    (hfit : ¬ n + m ≤ cap) (hb : (n + m) * te.bytes ≤ 140737488355328) (hn : n + m ≤ 140737488355328) :
    ∃ newCap nd, n + m ≤ newCap ∧ ∀ t, (Builtin.append_ q t #[.slice A n cap, cy]).run P w =
      .ok (.slice (some ⟨w.heap.size, 0, none⟩) (n + m) newCap) { w with drawn := nd, heap := w.heap.push (.cells (cs.toArray ++ ds.toArray ++ Builtin.zeroCells ke.zv.cells (newCap - (n + m))) e) } := by
  have hk : k.d = .slice e := dm_slice (hd ▸ k.dm)
  have hkx : (∃ xe, kx.d = .slice xe) ∨ kx.d = .string := by
    rcases hx with ⟨xe, h⟩ | h
    · exact .inl ⟨xe, dm_slice (h ▸ kx.dm)⟩
    · exact .inr (dm_str (h ▸ kx.dm))
  have hg := growslice_fits (bytes := te.bytes) (show cap < n + m by omega) hb
  have hg' : ¬ (Builtin.nextslicecap (n + m) cap * ke.i.bytes > 2 ^ 48) := by rw [ke.bytes]; omega
  have hmax : IntKind.i64.max = 9223372036854775807 := by decide
  have hbig : ¬ (((n + m : Nat) : Int) > IntKind.i64.max) := by rw [hmax]; omega
  generalize hq : Question.cut (.appendCap (n + m) cap e) (w.tape w.drawn (.appendCap (n + m) cap e)) = nc
  have hnc : n + m ≤ nc := by rw [← hq]; simp [Question.cut]
  have hA' := hA w.drew (fun c => rfl)
  have hB' := hB w.drew (fun c => rfl)
  refine ⟨nc, w.drawn + 1, hnc, fun t => ?_⟩
  have hforced : Question.forced (.appendCap (n + m) cap e) = false := rfl
  have hbig' : ¬ (9223372036854775807 < (n : Int) + (m : Int)) := by omega
  have hg2 : ¬ (281474976710656 < Builtin.nextslicecap (n + m) cap * ke.i.bytes) := by omega
  simp only [Builtin.append_, h0, List.getElem?_toArray, List.getElem?_cons_zero, List.getElem?_cons_succ]
  have hcat : cs.toArray ++ (ds.toArray ++ Builtin.zeroCells ke.zv.cells (nc - (n + m))) = (cs ++ ds).toArray ++ Builtin.zeroCells ke.zv.cells (nc - (n + m)) := by
    apply Array.ext'; simp
  rcases hkx with ⟨xe, hkx⟩ | hkx
  all_goals
    simp [k.run_und, kx.run_und, hk, hkx, ke.run_size, hY, hfit, h1, hbig', hg2, ke.run_info, hforced, hq, hA', hB', ke.run_zero, newRow]
    rw [hcat]
    rfl

/-- What is known of an owner when its slice has been appended to. -/
def St.own (s : St) (t : Nat) (v : Nat × Nat) (nk' : Nat) : St := { s with k := upd s.k t (some v), nk := nk' }

theorem Rel.own_rest {Y : Cx} (r : Rel s a X) {t nk' : Nat} {v : Nat × Nat} (e : Ext2 X Y) (hsz : X.w.heap.size ≤ Y.w.heap.size) (hμ : Y.μ = X.μ) (hblk : ∀ b i, X.own b = some (.inl i) → b < X.w.heap.size → Y.w.heap[b]? = X.w.heap[b]? ∧ Y.own b = X.own b ∧ Y.L b = X.L b)
    (hκ : ∀ u, u ≠ t → Y.κ u = X.κ u) (hv : Y.κ t = some v) (hn : s.nk ≤ nk') (ht : t < nk')
    (htok : ∀ u b cap sz, Y.τ u = some (b, cap, sz) → ∃ len T cs, (upd s.k t (some v)) u = some (len, T) ∧ (0 < sz ∧ 0 < len) ∧ Y.w.heap[b]? = some (.cells cs T (0, 0)) ∧ cs.size = cap * sz ∧ len ≤ cap ∧ Y.L b = some (len * sz) ∧ Y.own b = some (.inr u)) : Rel (s.own t v nk') a Y where
  size := r.size
  dfr := r.dfr
  tmps := fun u => (r.tmps u).mono e
  heap := fun i blk hi => by
    obtain ⟨h1, h2⟩ := r.heap i blk hi
    exact ⟨h1, h2.mono e (by rw [hμ]) fun b hb hl => (hblk b i (r.ow i blk b hi hb).1 hl).1⟩
  ow := fun i blk b hi hb => by
    rw [hμ] at hb
    obtain ⟨h3, h4⟩ := r.ow i blk b hi hb
    obtain ⟨k1, k2, k3⟩ := hblk b i h3 (r.mu i b hb).2
    exact ⟨k2.trans h3, k3.trans h4⟩
  mu := fun i b hi => by
    rw [hμ] at hi
    obtain ⟨h1, h2⟩ := r.mu i b hi
    exact ⟨h1, Nat.lt_of_lt_of_le h2 hsz⟩
  kap := fun u => by
    show Y.κ u = upd s.k t (some v) u
    by_cases hu : u = t
    · subst hu; rw [upd_same]; exact hv
    · rw [upd_ne _ _ hu, hκ u hu]; exact r.kap u
  kn := fun u len hu => by
    show u < nk'
    by_cases h : u = t
    · omega
    · have : upd s.k t (some v) u = some len := hu
      rw [upd_ne _ _ h] at this
      have := r.kn u len this
      omega
  tok := htok

theorem row_div {ds : List Value} {m size : Nat} (hz : 0 < size) (hl : ds.length = m * size) {j : Nat} {v : Value} (hv : ds[j]? = some v) : ∃ i, i < m ∧ v ∈ (ds.drop (i * size)).take size := by
  have hj := (List.getElem?_eq_some_iff.1 hv).1
  rw [hl] at hj
  have hi : j / size < m := by rw [Nat.div_lt_iff_lt_mul hz]; exact hj
  have hq : j % size < size := Nat.mod_lt _ hz
  have hjj : j / size * size + j % size = j := by rw [Nat.mul_comm]; exact Nat.div_add_mod j size
  refine ⟨j / size, hi, List.mem_of_getElem? (i := j % size) ?_⟩
  rw [List.getElem?_take, if_pos hq, List.getElem?_drop, hjj]; exact hv
theorem setV_low : ∀ (vs cs : List Value) (off j : Nat), j < off → (setV cs off vs)[j]? = cs[j]?
  | [], cs, off, j, h => rfl
  | v :: vs, cs, off, j, h => by
    simp only [setV]
    rw [setV_low vs _ (off + 1) j (by omega), List.getElem?_set_ne (by omega)]
theorem setV_mid : ∀ (vs cs : List Value) (off j : Nat), off + vs.length ≤ cs.length → j < vs.length → (setV cs off vs)[off + j]? = vs[j]?
  | [], cs, off, j, _, h => by simp at h
  | v :: vs, cs, off, j, hl, h => by
    simp only [List.length_cons] at hl h
    simp only [setV]
    cases j with
    | zero =>
      show (setV (cs.set off v) (off + 1) vs)[off]? = some v
      rw [setV_low vs _ (off + 1) off (by omega), List.getElem?_set_self (by omega)]
    | succ j =>
      have := setV_mid vs (cs.set off v) (off + 1) j (by simp; omega) (by omega)
      rw [show off + (j + 1) = off + 1 + j from by omega, this]
      rfl

theorem append_core (r : Rel s a X) {T xT : Nat} {ti xi te : TI} (k : TIOk P T ti) (kx : TIOk P xT xi) {e : Nat} (hd : ti.d = .slice e) (ke : TIOk P e te) {xe : Nat} (hxd : xi.d = .slice xe)
    {q : Array TypeId} (hq0 : q[0]? = some T) (hq1 : q[1]? = some xT) {tag tag' : Tag} {n m : Nat} {f g : Nat → AV} {A B : Option Addr} {lenA cap lenB capB : Nat}
    (hx : Rep X false (.sl tag n f) (.slice A lenA cap)) (hy : Rep X true (.sl tag' m g) (.slice B lenB capB))
    (hsz : 0 < te.size) (hby : (n + m) * te.bytes ≤ 140737488355328) (hnm : n + m ≤ 140737488355328) (hcf : ∀ i, i < n → (f i).cells.length = te.size) (hcg : ∀ i, i < m → (g i).cells.length = te.size)
    (hog : ∀ i, i < m → ones (g i).cells = true) (hzc : te.zero.cells.length = te.size)
    {t nk' : Nat} (hnk : s.nk ≤ nk') (ht : t < nk') (hκ : (X.κ t = none ∧ X.τ t = none) ∨ X.κ t = some (n, e))
    (hcase : (∃ b, A = some ⟨b, 0, none⟩ ∧ X.τ t = some (b, cap, te.size) ∧ X.κ t = some (n, e)) ∨ (cap = n ∧ X.τ t = none)) :
    ∃ cv Y, (∀ ty, (Builtin.append_ q ty #[.slice A lenA cap, .slice B lenB capB]).run P X.w = .ok cv Y.w) ∧ Rep Y false (.sl (.tok t) (n + m) (joinF n f g)) cv ∧ Rel (s.own t (n + m, e) nk') a Y ∧ Fr X Y := by
  obtain ⟨rfl, hnc, cs, hcl, hcn, hca, hcr⟩ := flat_of hx hcf
  obtain ⟨rfl, hmc, ds, hdl, hdn, hda, hdr⟩ := flat_of hy hcg
  have hrunA : ∀ w', (∀ c, w'.cell? c = X.w.cell? c) → (Builtin.firstCells te.size lenA (.slice A lenA cap)).run P w' = .ok cs.toArray w' := fun w' hw => run_firstCells hcl hcn hca w' (fun b o v h => (hw _).trans h.1)
  have hrunB : ∀ w', (∀ c, w'.cell? c = X.w.cell? c) → (Builtin.firstCells te.size lenB (.slice B lenB capB)).run P w' = .ok ds.toArray w' := fun w' hw => run_firstCells hdl hdn hda w' (fun b o v h => (hw _).trans h.1)
  by_cases hfit : lenA + lenB ≤ cap
  · have hrun := run_append_fits k kx hd ke (.inl ⟨_, hxd⟩) hq0 hq1 (A := A) (cy := .slice B lenB capB) (fun _ => rfl) (hrunB X.w fun _ => rfl) hfit
    rcases hcase with ⟨b, rfl, hτ, hκn⟩ | ⟨hcapn, hτ⟩
    · -- there is room: it is written behind
      obtain ⟨len, T', cur, h1, h2, h3, h4, h5, h6, h7⟩ := r.tok t b cap te.size hτ
      have hlen : len = lenA := by
        have := r.kap t
        rw [hκn, h1] at this
        exact (congrArg Prod.fst (Option.some.inj this)).symm
      have hTe : T' = e := by
        have := r.kap t
        rw [hκn, h1] at this
        exact (congrArg Prod.snd (Option.some.inj this)).symm
      subst hTe
      subst hlen
      have hroom : len * te.size + ds.length ≤ cur.toList.length := by
        rw [hdl, Array.length_toList, h4, ← Nat.add_mul]
        exact Nat.mul_le_mul_right _ hfit
      have hones : ∀ v ∈ ds, v.oneCell' = true := by
        intro v hv
        obtain ⟨j, hj⟩ := List.getElem?_of_mem hv
        obtain ⟨i, hi, hm⟩ := row_div hsz hdl hj
        exact ones_cells (hdr i hi) (hog i hi) v hm
      have hcur : X.w.heap[b]? = some (.cells cur.toList.toArray T' (0, 0)) := by simpa using h3
      have hst := run_storeCells_at (P := P) b T' (0, 0) (len * te.size) ds 0 cur.toList X.w hcur (.inl (Nat.le_refl _)) (by omega) hones
      rw [Nat.add_zero] at hst
      let new : List Value := setV cur.toList (len * te.size) ds
      let Y : Cx := { X with w := { X.w with heap := X.w.heap.setIfInBounds b (.cells new.toArray T' (0, 0)) }, L := upd X.L b (some ((len + lenB) * te.size)), κ := upd X.κ t (some (len + lenB, T')) }
      have hYb : Y.w.heap[b]? = some (.cells new.toArray T' (0, 0)) := set_eq (blk_lt hcur)
      have hle : len * te.size ≤ (len + lenB) * te.size := Nat.mul_le_mul_right _ (by omega)
      have hext : Ext X Y := by
        rintro c o v ⟨g1, g2⟩
        by_cases hcb : c = b
        · subst hcb
          have ho := g2 _ h6
          refine ⟨?_, fun n' hn' => ?_⟩
          · rw [cell_eq hYb, List.getElem?_toArray, setV_low _ _ _ _ ho]
            rw [cell_eq hcur, List.getElem?_toArray] at g1; exact g1
          · have : Y.L c = some ((len + lenB) * te.size) := upd_same ..
            rw [this] at hn'; cases hn'; omega
        · refine ⟨(cell_congr (set_ne hcb)).trans g1, fun n' hn' => g2 n' ?_⟩
          exact (upd_ne X.L _ hcb).symm.trans hn'
      have hE : Ext2 X Y := Ext2.tok t (len + lenB) hext rfl (fun _ _ => rfl) (fun u hu => upd_ne _ _ hu) (upd_same ..) (.inr ⟨len, hκn, by omega, fun _ => rfl⟩) (by simp [Y])
      have hbμ : ∀ c i, X.own c = some (.inl i) → c ≠ b := fun c i hi ec => by subst ec; rw [h7] at hi; cases hi
      refine ⟨.slice (some ⟨b, 0, none⟩) (len + lenB) cap, Y, ?_, ?_, ?_, ?_⟩
      · intro ty
        rw [hrun ty]
        simp only [add_off, Nat.zero_add, hst, Result.andThen_ok]
        rfl
      · refine rep_of_flat hsz (cs := cs ++ ds) (by rw [List.length_append, hcl, hdl, Nat.add_mul]) hfit ?_ (join_pieces hcl (fun i hi => RepL.pmono hext rfl (hcr i hi)) hdl (fun i hi => RepL.pmono hext rfl (hdr i hi))) ?_
        · intro j v hv
          have hjl := (List.getElem?_eq_some_iff.1 hv).1
          rw [List.length_append, hcl, hdl, ← Nat.add_mul] at hjl
          refine ⟨?_, fun n' hn' => ?_⟩
          · rw [cell_eq hYb, List.getElem?_toArray]
            by_cases hjc : j < len * te.size
            · rw [setV_low _ _ _ _ hjc]
              rw [List.getElem?_append_left (by omega)] at hv
              have := ((hca _ rfl).2 j v hv).1
              simp only [Nat.zero_add] at this
              rw [cell_eq hcur, List.getElem?_toArray] at this; exact this
            · rw [List.getElem?_append_right (by omega), hcl] at hv
              have hlt := (List.getElem?_eq_some_iff.1 hv).1
              have := setV_mid ds cur.toList (len * te.size) (j - len * te.size) hroom hlt
              rw [show len * te.size + (j - len * te.size) = j from by omega] at this
              rw [this]; exact hv
          · have : Y.L b = some ((len + lenB) * te.size) := upd_same ..
            rw [this] at hn'; cases hn'; exact hjl
        · exact ⟨rfl, len + lenB, T', upd_same .., Nat.le_refl _, fun _ => .inl ⟨rfl, hτ⟩⟩
      · refine r.own_rest hE (by simp [Y]) rfl (fun c i hi _ => ⟨set_ne (hbμ c i hi), rfl, upd_ne _ _ (hbμ c i hi)⟩) (fun u hu => upd_ne _ _ hu) (upd_same ..) hnk ht ?_
        intro u c cap' sz' hu
        by_cases hut : u = t
        · subst hut
          have : X.τ u = some (c, cap', sz') := hu
          rw [hτ] at this; cases this
          refine ⟨len + lenB, T', new.toArray, upd_same .., ⟨h2.1, by omega⟩, hYb, ?_, hfit, upd_same .., h7⟩
          simp [new, setV_length, h4]
        · obtain ⟨l', T2, c2, g1, g2, g3, g4, g5, g6, g7⟩ := r.tok u c cap' sz' hu
          have hcb : c ≠ b := fun ec => by subst ec; rw [h7] at g7; injection g7 with g7; injection g7 with g7; exact hut g7.symm
          exact ⟨l', T2, c2, (upd_ne _ _ hut).trans g1, g2, (set_ne hcb).trans g3, g4, g5, (upd_ne _ _ hcb).trans g6, g7⟩
      · refine ⟨rfl, rfl, rfl, by simp [Y], fun c hc ho => ?_, hE⟩
        have hcb : c ≠ b := fun ec => by subst ec; rw [h7] at ho; cases ho
        exact ⟨set_ne hcb, ho, upd_ne _ _ hcb⟩
    · -- nothing is appended
      have hm0 : lenB = 0 := by omega
      subst hm0
      have hds : ds = [] := List.eq_nil_of_length_eq_zero (by simpa using hdl)
      subst hds
      let Y : Cx := { X with κ := upd X.κ t (some (lenA + 0, e)) }
      have hext : Ext X Y := fun _ _ _ h => h
      have hE : Ext2 X Y := Ext2.tok t (lenA + 0) hext rfl (fun _ _ => rfl) (fun u hu => upd_ne _ _ hu) (upd_same ..) (hκ.imp (fun h => h.1) (fun h => ⟨lenA, h, by omega, fun _ => rfl⟩)) (Nat.le_refl _)
      have hjf : ∀ i, i < lenA → joinF lenA f g i = f i := fun i hi => by simp [joinF, show Nat.blt i lenA = true from by simpa [Nat.blt_eq] using hi]
      refine ⟨.slice A (lenA + 0) cap, Y, ?_, ?_, ?_, ⟨rfl, rfl, rfl, Nat.le_refl _, fun _ _ ho => ⟨rfl, ho, rfl⟩, hE⟩⟩
      · intro ty
        rw [hrun ty]
        cases A <;> simp [storeCells, Y]
      · cases hx with
        | snil f A hn hn' => exact .snil _ A ⟨rfl, 0, e, upd_same .., fun _ => hτ⟩ (fun h => by cases h)
        | sl b o _ sz g' hz hc hr hg ha hT =>
          refine .sl b o cap sz g' hz hc (fun i hi => ?_) hg ha ⟨rfl, lenA + 0, e, upd_same .., Nat.le_refl _, fun _ => .inr ⟨hcapn, hτ⟩⟩
          rw [hjf i hi]; exact RepL.pmono hext rfl (hr i hi)
      · refine r.own_rest hE (Nat.le_refl _) rfl (fun _ _ _ _ => ⟨rfl, rfl, rfl⟩) (fun u hu => upd_ne _ _ hu) (upd_same ..) hnk ht ?_
        intro u c cap' sz' hu
        have hut : u ≠ t := fun e => by subst e; have : X.τ u = some (c, cap', sz') := hu; rw [hτ] at this; cases this
        obtain ⟨l', T2, c2, g1, g2, g3, g4, g5, g6, g7⟩ := r.tok u c cap' sz' hu
        exact ⟨l', T2, c2, (upd_ne _ _ hut).trans g1, g2, g3, g4, g5, g6, g7⟩
  · -- a new row
    obtain ⟨newCap, nd, hnew, hrun⟩ := run_append_grows k kx hd ke (.inl ⟨_, hxd⟩) hq0 hq1 (cy := .slice B lenB capB) (fun _ => rfl) hrunA hrunB hfit hby hnm
    have hz := (vOk_cells X true ke.zok).length
    have hzs : ke.zv.cells.size = te.size := by rw [hzc] at hz; simpa using hz.symm
    let cells : Array Value := cs.toArray ++ ds.toArray ++ Builtin.zeroCells ke.zv.cells (newCap - (lenA + lenB))
    let Y : Cx := { X with w := { X.w with drawn := nd, heap := X.w.heap.push (.cells cells e (0, 0)) }, L := upd X.L X.w.heap.size (some ((lenA + lenB) * te.size)), own := upd X.own X.w.heap.size (some (.inr t)), τ := upd X.τ t (some (X.w.heap.size, newCap, te.size)), κ := upd X.κ t (some (lenA + lenB, e)) }
    have hYb : Y.w.heap[X.w.heap.size]? = some (.cells cells e (0, 0)) := by simp [Y]
    have hYlt : ∀ c, c < X.w.heap.size → Y.w.heap[c]? = X.w.heap[c]? := fun c hc => push_lt hc
    have hext : Ext X Y := by
      rintro c o v ⟨g1, g2⟩
      have hc := cell_lt g1
      refine ⟨(cell_congr (hYlt c hc)).trans g1, fun n' hn' => g2 n' ?_⟩
      exact (upd_ne X.L _ (show c ≠ X.w.heap.size by omega)).symm.trans hn'
    have hE : Ext2 X Y := Ext2.tok t (lenA + lenB) hext rfl (fun u hu => upd_ne _ _ hu) (fun u hu => upd_ne _ _ hu) (upd_same ..) (hκ.imp (fun h => h.1) (fun h => ⟨lenA, h, by omega, fun hh => by omega⟩)) (by simp [Y])
    have hcsz : cells.size = newCap * te.size := by
      simp only [cells, Array.size_append, List.size_toArray, hcl, hdl, Builtin.zeroCells, Array.size_map, Array.size_range, hzs, ← Nat.add_mul]
      congr 1; omega
    refine ⟨.slice (some ⟨X.w.heap.size, 0, none⟩) (lenA + lenB) newCap, Y, fun ty => hrun ty, ?_, ?_, ?_⟩
    · refine rep_of_flat hsz (cs := cs ++ ds) (by rw [List.length_append, hcl, hdl, Nat.add_mul]) hnew ?_ (join_pieces hcl (fun i hi => RepL.pmono hext rfl (hcr i hi)) hdl (fun i hi => RepL.pmono hext rfl (hdr i hi))) ?_
      · intro j v hv
        have hjl := (List.getElem?_eq_some_iff.1 hv).1
        rw [List.length_append, hcl, hdl, ← Nat.add_mul] at hjl
        refine ⟨?_, fun n' hn' => ?_⟩
        · rw [cell_eq hYb]
          have : cells[j]? = (cs ++ ds)[j]? := by
            simp only [cells]
            rw [Array.getElem?_append_left (by simp only [Array.size_append, List.size_toArray, hcl, hdl, ← Nat.add_mul]; exact hjl)]
            simp
          rw [this]; exact hv
        · have : Y.L X.w.heap.size = some ((lenA + lenB) * te.size) := upd_same ..
          rw [this] at hn'; cases hn'; exact hjl
      · exact ⟨rfl, lenA + lenB, e, upd_same .., Nat.le_refl _, fun _ => .inl ⟨rfl, upd_same ..⟩⟩
    · refine r.own_rest hE (by simp [Y]) rfl (fun c i hi hc => ?_) (fun u hu => upd_ne _ _ hu) (upd_same ..) hnk ht ?_
      · exact ⟨hYlt c hc, upd_ne _ _ (by omega), upd_ne _ _ (by omega)⟩
      · intro u c cap' sz' hu
        by_cases hut : u = t
        · subst hut
          have : Y.τ u = some (X.w.heap.size, newCap, te.size) := upd_same ..
          rw [this] at hu; cases hu
          exact ⟨lenA + lenB, e, cells, upd_same .., ⟨hsz, by omega⟩, hYb, hcsz, hnew, upd_same .., upd_same ..⟩
        · have hu' : X.τ u = some (c, cap', sz') := (upd_ne X.τ _ hut).symm.trans hu
          obtain ⟨l', T2, c2, g1, g2, g3, g4, g5, g6, g7⟩ := r.tok u c cap' sz' hu'
          have hc := blk_lt g3
          exact ⟨l', T2, c2, (upd_ne _ _ hut).trans g1, g2, (hYlt c hc).trans g3, g4, g5, (upd_ne _ _ (by omega)).trans g6, (upd_ne _ _ (by omega)).trans g7⟩
    · refine ⟨rfl, rfl, rfl, by simp [Y], fun c hc ho => ⟨hYlt c hc, (upd_ne _ _ (by omega)).trans ho, upd_ne _ _ (by omega)⟩, hE⟩

theorem appendB_sound (hΓ : GOk P E.Γ) (r : Rel s a X) {T xT : Nat} {q : Array TypeId} (hq0 : q[0]? = some T) (hq1 : q[1]? = some xT) {x y : AV} {cx cy : Value} (hx : Rep X false x cx) (hy : Rep X false y cy) :
    (appendB E s T xT x y).sat fun v s' => ∃ cv Y, (∀ ty, (Builtin.append_ q ty #[cx, cy]).run P X.w = .ok cv Y.w) ∧ Rep Y false v cv ∧ Rel s' a Y ∧ Fr X Y := by
  unfold appendB
  split
  · rename_i ti xd hti hxd
    obtain ⟨k⟩ := hΓ _ _ hti
    obtain ⟨xi, ⟨kx⟩, hxe⟩ := tdOf_ok hΓ hxd
    split
    · rename_i e hd
      split
      · trivial
      rename_i te hte
      obtain ⟨ke⟩ := hΓ _ _ hte
      have hsl : ∀ {tag n f c}, Rep X false (.sl tag n f) c → ∃ A l cap, c = .slice A l cap := by
        intro tag n f c h; cases h <;> exact ⟨_, _, _, rfl⟩
      have hp : ∀ {tag n f c}, Rep X false (.sl tag n f) c → Rep X true (.sl .no n f) c := by
        intro tag n f c h
        cases h with
        | snil f A _ _ => exact .snil f A trivial (fun h => by cases h)
        | sl b o cap sz g hz hc hr hg ha ht => exact .sl b o cap sz g hz hc hr hg ha trivial
      split
      · rename_i xe n f tag' m g
        rintro ⟨hsz, hzc, hby, hnm, hcf, hcg, hog⟩
        obtain ⟨A, lenA, cap, rfl⟩ := hsl hx
        obtain ⟨B, lenB, capB, rfl⟩ := hsl hy
        have hκn : X.κ s.nk = none := by
          rw [r.kap]
          cases h : s.k s.nk with
          | none => rfl
          | some v => have := r.kn _ _ h; omega
        have hτn : X.τ s.nk = none := by
          cases h : X.τ s.nk with
          | none => rfl
          | some v =>
            obtain ⟨b, cap', sz⟩ := v
            obtain ⟨len, _, _, h1, _⟩ := r.tok _ _ _ _ h
            have := r.kn _ _ h1; omega
        have hcapn : cap = n := by
          cases hx with
          | snil f _ _ _ => rfl
          | sl b o _ sz g' hz hc hr hg ha ht => exact ht
        exact append_core r k kx hd ke hxe hq0 hq1 hx (hp hy) hsz hby hnm hcf hcg hog hzc (t := s.nk) (nk' := s.nk + 1) (by omega) (by omega) (.inl ⟨hκn, hτn⟩) (.inr ⟨hcapn, hτn⟩)
      · rename_i xe t n f tag' m g
        rintro ⟨hk, hsz, hzc, hby, hnm, hcf, hcg, hog⟩
        obtain ⟨A, lenA, cap, rfl⟩ := hsl hx
        obtain ⟨B, lenB, capB, rfl⟩ := hsl hy
        have hκn : X.κ t = some (n, e) := by rw [r.kap]; exact hk
        have hcase : (∃ b, A = some ⟨b, 0, none⟩ ∧ X.τ t = some (b, cap, te.size) ∧ X.κ t = some (n, e)) ∨ (cap = n ∧ X.τ t = none) := by
          cases hx with
          | snil f A hn _ =>
            obtain ⟨_, c, U, h1, h2⟩ := hn
            rw [hκn] at h1; cases h1
            exact .inr ⟨rfl, h2 rfl⟩
          | sl b o _ sz g' hz hc hr hg ha ht =>
            obtain ⟨_, c, U, h1, h2, h3⟩ := ht
            rw [hκn] at h1; cases h1
            rcases h3 rfl with ⟨h4, h5⟩ | h4
            · subst h4
              by_cases hn0 : n = 0
              · subst hn0
                obtain ⟨len, T', cs, g1, g2, g3, g4, g5, g6, g7⟩ := r.tok _ _ _ _ h5
                rw [hk] at g1; cases g1
                exact absurd g2.2 (by omega)
              · have : sz = te.size := by rw [← hg 0 (by omega), ← (hr 0 (by omega)).length, hcf 0 (by omega)]
                exact .inl ⟨b, rfl, by rw [← this]; exact h5, hκn⟩
            · exact .inr h4
        exact append_core r k kx hd ke hxe hq0 hq1 hx (hp hy) hsz hby hnm hcf hcg hog hzc (t := t) (nk' := s.nk) (by omega) (r.kn t _ hk) (.inr hκn) hcase
      · trivial
    · trivial
  · trivial

theorem tighten_rep {p : Bool} {x : AV} {cx : Value} (h : Rep X p x cx) : Rep X p (tighten x) cx := by
  unfold tighten
  split
  · cases h with
    | snil _ A _ _ => exact .snil _ A trivial (fun h => by cases h)
    | sl b o cap sz g hz hc hr hg ha ht => exact ht.elim
  · exact h
/-! ### Appending to a row of one's own -/
theorem cells_hs (r : Rel s a X) {i lo m sz T' sz' n : Nat} {cp : Option Nat} {f : Nat → AV} {A : Option Addr} {len cap : Nat} (h : Rep X false (.hs i lo m sz cp) (.slice A len cap)) (hb : s.h i = some (.arr T' sz' n f)) (hs : sz' = sz) (hle : lo + m ≤ n) :
    len = m ∧ m ≤ cap ∧ ∃ ds : List Value, ds.length = m * sz ∧ (∀ w', (∀ c, w'.cell? c = X.w.cell? c) → (Builtin.firstCells sz m (.slice A m cap)).run P w' = .ok ds.toArray w') ∧ ∀ j, j < m → RepL X false (f (lo + j)).cells ((ds.drop (j * sz)).take sz) := by
  subst hs
  have none0 : ∀ A cap (w' : World), (Builtin.firstCells sz' 0 (.slice A 0 cap)).run P w' = .ok (([] : List Value).toArray) w' := by
    intro A cap w'
    cases A with
    | none => rfl
    | some ad => simp only [Builtin.firstCells, Nat.zero_mul]; rfl
  cases h with
  | hs0 _ _ _ _ hz hc => exact ⟨rfl, Nat.le_refl _, [], by simp, fun w' _ => none0 none 0 w', fun j hj => by omega⟩
  | hs _ _ _ _ _ o hm hlt hz hn hc ho hbs =>
    rename_i b
    refine ⟨rfl, hn, ?_⟩
    by_cases hm0 : m = 0
    · subst hm0
      exact ⟨[], by simp, fun w' _ => none0 _ cap w', fun j hj => by omega⟩
    obtain ⟨vs, fr, hh, hfr, _, hnv, hvl, hr⟩ := r.blk hb hm
    have ho' : o = lo * sz' := ho.resolve_left (by omega)
    subst ho'
    have hle' : lo * sz' + m * sz' ≤ vs.length := by
      have := Nat.mul_le_mul_right sz' hle
      rw [Nat.add_mul] at this; omega
    have hl : ((vs.drop (lo * sz')).take (m * sz')).length = m * sz' := by simp; omega
    refine ⟨(vs.drop (lo * sz')).take (m * sz'), hl, fun w' hw => ?_, fun j hj => ?_⟩
    · have := run_loadCells_list (P := P) w' ⟨b, lo * sz', none⟩ ((vs.drop (lo * sz')).take (m * sz')) (fun j v hv => by
        rw [add_off, hw, cell_eq hh, List.getElem?_toArray]
        rw [List.getElem?_take] at hv
        split at hv
        · rw [List.getElem?_drop] at hv; exact hv
        · cases hv)
      rw [hl] at this
      exact this
    · have h1 := hr (lo + j) (by omega)
      have hj' : j * sz' + sz' ≤ m * sz' := by
        have := Nat.mul_le_mul_right sz' (show j + 1 ≤ m by omega)
        rwa [Nat.succ_mul] at this
      have e : (((vs.drop (lo * sz')).take (m * sz')).drop (j * sz')).take sz' = (vs.drop ((lo + j) * sz')).take sz' := by
        rw [List.drop_take, List.take_take, Nat.min_eq_left (by omega), List.drop_drop, Nat.add_mul]
      rw [e]
      exact h1
theorem pieces_of_flat {size : Nat} {n m : Nat} {f g : Nat → AV} {cs ds rest : List Value} {Y : Cx} (hl : cs.length = n * size) (hf : ∀ i, i < n → RepL Y false (f i).cells ((cs.drop (i * size)).take size)) (hlm : ds.length = m * size) (hg : ∀ i, i < m → RepL Y false (g i).cells ((ds.drop (i * size)).take size)) :
    ∀ i, i < n + m → RepL Y false (joinF n f g i).cells (((cs ++ ds ++ rest).drop (i * size)).take size) := by
  intro i hi
  have hii : i * size + size ≤ (cs ++ ds).length := by
    rw [List.length_append, hl, hlm, ← Nat.add_mul]
    have := Nat.mul_le_mul_right size (show i + 1 ≤ n + m by omega)
    rwa [Nat.succ_mul] at this
  rw [List.drop_append_of_le_length (by omega), List.take_append_of_le_length (by simp at hii ⊢; omega)]
  by_cases hin : i < n
  · have e : joinF n f g i = f i := by simp [joinF, Nat.blt_eq, show Nat.blt i n = true from by simpa [Nat.blt_eq] using hin]
    have : i * size + size ≤ n * size := by
      have := Nat.mul_le_mul_right size (show i + 1 ≤ n by omega)
      rwa [Nat.succ_mul] at this
    rw [e, List.drop_append_of_le_length (by omega), List.take_append_of_le_length (by simp; omega)]
    exact hf i hin
  · have hb : Nat.blt i n = false := by
      cases hb : Nat.blt i n with
      | false => rfl
      | true => exact absurd (by simpa [Nat.blt_eq] using hb) hin
    have e : joinF n f g i = g (i - n) := by simp [joinF, hb]
    have hle : n * size ≤ i * size := Nat.mul_le_mul_right size (by omega)
    rw [e, List.drop_append, List.drop_of_length_le (by omega), List.nil_append, hl, ← Nat.sub_mul]
    exact hg _ (by omega)
theorem setV_row_low {vs ds : List Value} {off size j : Nat} (h : j * size + size ≤ off) : ((setV vs off ds).drop (j * size)).take size = (vs.drop (j * size)).take size := by
  apply List.ext_getElem?
  intro q
  rw [List.getElem?_take, List.getElem?_take]
  split
  · rw [List.getElem?_drop, List.getElem?_drop, setV_low _ _ _ _ (by omega)]
  · rfl
theorem setV_row_mid {vs ds : List Value} {n m size j : Nat} (hl : ds.length = m * size) (hle : (n + m) * size ≤ vs.length) (hj : j < m) : ((setV vs (n * size) ds).drop ((n + j) * size)).take size = (ds.drop (j * size)).take size := by
  have hjm : j * size + size ≤ m * size := by
    have := Nat.mul_le_mul_right size (show j + 1 ≤ m by omega)
    rwa [Nat.succ_mul] at this
  rw [Nat.add_mul] at hle
  apply List.ext_getElem?
  intro q
  rw [List.getElem?_take, List.getElem?_take]
  split
  · rw [List.getElem?_drop, List.getElem?_drop, Nat.add_mul, Nat.add_assoc, setV_mid _ _ _ _ (by omega) (by omega)]
  · rfl
/-- a new row -/
theorem grow_new (r : Rel s a X) {T xT : Nat} {ti xi te : TI} (k : TIOk P T ti) (kx : TIOk P xT xi) {e : Nat} (hd : ti.d = .slice e) (ke : TIOk P e te) (hxd : (∃ xe, xi.d = .slice xe) ∨ xi.d = .str)
    {q : Array TypeId} (hq0 : q[0]? = some T) (hq1 : q[1]? = some xT) {n m : Nat} {F : Nat → AV} {A : Option Addr} {cap : Nat} {cy : Value} {cs ds : List Value} (hY : ∀ w, (Builtin.lenOf cy).run P w = .ok m w)
    (hA : ∀ w', (∀ c, w'.cell? c = X.w.cell? c) → (Builtin.firstCells te.size n (.slice A n cap)).run P w' = .ok cs.toArray w') (hB : ∀ w', (∀ c, w'.cell? c = X.w.cell? c) → (Builtin.firstCells te.size m cy).run P w' = .ok ds.toArray w')
    (hcl : cs.length = n * te.size) (hdl : ds.length = m * te.size) (hrep : ∀ Y : Cx, Ext2 X Y → ∀ rest i, i < n + m → RepL Y false (F i).cells (((cs ++ ds ++ rest).drop (i * te.size)).take te.size))
    (hsz : 0 < te.size) (hby : (n + m) * te.bytes ≤ 140737488355328) (hnm : n + m ≤ 140737488355328) (hzc : te.zero.cells.length = te.size) (hfit : ¬ n + m ≤ cap) :
    ∃ cv Y, (∀ ty, (Builtin.append_ q ty #[.slice A n cap, cy]).run P X.w = .ok cv Y.w) ∧ Rep Y false (.hs s.nx 0 (n + m) te.size none) cv ∧ Rel (s.new (.arr e te.size (n + m) F)) a Y ∧ Fr X Y := by
  obtain ⟨newCap, nd, hnew, hrun⟩ := run_append_grows k kx hd ke hxd hq0 hq1 hY hA hB hfit hby hnm
  have hz := (vOk_cells X true ke.zok).length
  have hzs : ke.zv.cells.size = te.size := by rw [hzc] at hz; simpa using hz.symm
  let cells : Array Value := cs.toArray ++ ds.toArray ++ Builtin.zeroCells ke.zv.cells (newCap - (n + m))
  have hcsz : cells.size = newCap * te.size := by
    simp only [cells, Array.size_append, List.size_toArray, hcl, hdl, Builtin.zeroCells, Array.size_map, Array.size_range, hzs, ← Nat.add_mul]
    congr 1; omega
  have hct : cells.toList = cs ++ ds ++ (Builtin.zeroCells ke.zv.cells (newCap - (n + m))).toList := by simp [cells]
  let X1 : Cx := X.new s.nx (.cells cells e (0, 0))
  let Y : Cx := { X1 with w := { X1.w with drawn := nd } }
  have hsm : Same X1 Y := ⟨rfl, rfl, rfl, Nat.le_refl _, fun _ _ => rfl, fun _ _ => rfl, fun _ _ => rfl, rfl, rfl, rfl, rfl⟩
  have hbs : X1.bs X.w.heap.size = newCap * te.size := (upd_same ..).trans (by simp [Obj.cellN, hcsz])
  have hE := X.new_ext s.nx (.cells cells e (0, 0)) r.mu_none r.mu_lt
  refine ⟨.slice (some ⟨X.w.heap.size, 0, none⟩) (n + m) newCap, Y, fun ty => hrun ty, ?_, ?_, (X.new_fr _ _ r.mu_none r.mu_lt).trans hsm.fr⟩
  · refine .hs 0 (n + m) te.size none newCap 0 (upd_same ..) (by show _ < (X.w.heap.push _).size; simp) hsz hnew (fun c hc => by cases hc) (.inr (by simp)) ?_
    show (0 + newCap) * te.size ≤ X1.bs X.w.heap.size
    rw [hbs, Nat.zero_add]; exact Nat.le_refl _
  · refine hsm.rel (r.new _ _ ⟨cells.toList, (0, 0), by rw [Array.toArray_toList]; exact push_eq, .inl (Nat.le_refl _), hsz, ?_, by rw [hbs]; simp [hcsz], fun j hj => ?_⟩)
    · simp only [Array.length_toList, hcsz]; exact Nat.mul_le_mul_right _ hnew
    · rw [hct]
      exact hrep _ hE _ j hj
/-- room is there -/
theorem grow_fits (r : Rel s a X) {T xT : Nat} {ti xi te : TI} (k : TIOk P T ti) (kx : TIOk P xT xi) {e : Nat} (hd : ti.d = .slice e) (ke : TIOk P e te) (hxd : (∃ xe, xi.d = .slice xe) ∨ xi.d = .str)
    {q : Array TypeId} (hq0 : q[0]? = some T) (hq1 : q[1]? = some xT) {i n m n' : Nat} {f g : Nat → AV} {cp : Option Nat} {A : Option Addr} {len cap : Nat} {cy : Value} {ds : List Value} (hY : ∀ w, (Builtin.lenOf cy).run P w = .ok m w)
    (hx : Rep X false (.hs i 0 n te.size cp) (.slice A len cap)) (hs : s.h i = some (.arr e te.size n' f)) (hn' : n ≤ n')
    (hB : ∀ w', (∀ c, w'.cell? c = X.w.cell? c) → (Builtin.firstCells te.size m cy).run P w' = .ok ds.toArray w') (hdl : ds.length = m * te.size) (hg : ∀ Y : Cx, Ext2 X Y → ∀ j, j < m → RepL Y false (g j).cells ((ds.drop (j * te.size)).take te.size))
    (hones : ∀ v ∈ ds, v.oneCell' = true) (hfit : n + m ≤ cap) :
    ∃ cv Y, (∀ ty, (Builtin.append_ q ty #[.slice A n cap, cy]).run P X.w = .ok cv Y.w) ∧ Rep Y false (.hs s.nx 0 (n + m) te.size none) cv ∧ Rel (s.grow i (.arr e te.size (n + m) (joinF n f g))) a Y ∧ Fr X Y := by
  have hrun := run_append_fits k kx hd ke hxd hq0 hq1 (A := A) (cy := cy) hY (hB X.w fun _ => rfl) hfit
  cases hx with
  | hs0 _ _ _ _ hz hc =>
    have hm0 : m = 0 := by omega
    subst hm0
    have hds : ds = [] := List.eq_nil_of_length_eq_zero (by simpa using hdl)
    subst hds
    refine ⟨.slice none (0 + 0) 0, X, fun ty => ?_, .hs0 _ _ _ _ hz (fun c h => by cases h), (r.kill i).phantom e te.size (joinF 0 f g), Fr.refl X⟩
    rw [hrun ty]
    try simp [storeCells]
  | hs _ _ _ _ _ o hm hlt hz hn hc ho hbs =>
    rename_i b
    obtain ⟨vs, fr, hh, hfr, _, hnv, hvl, hr⟩ := r.blk hs hm
    have hcapv : cap * te.size ≤ vs.length := by rw [hvl, Nat.zero_add] at *; exact hbs
    have hroom : (n + m) * te.size ≤ vs.length := Nat.le_trans (Nat.mul_le_mul_right _ hfit) hcapv
    have hroom' : n * te.size + ds.length ≤ vs.length := by rw [hdl, ← Nat.add_mul]; exact hroom
    have ho0 : n + m = 0 ∨ o = 0 := by
      rcases ho with h | h
      · left; omega
      · right; simpa using h
    have hst := run_storeCells_at (P := P) b e fr (n * te.size) ds 0 vs X.w hh hfr (by omega) hones
    rw [Nat.add_zero] at hst
    obtain ⟨hrel, hfrm⟩ := r.regrow hs hm (.cells (setV vs (n * te.size) ds).toArray e fr) (blk := .arr e te.size (n + m) (joinF n f g))
      ⟨setV vs (n * te.size) ds, fr, set_eq (blk_lt hh), by rw [setV_length]; exact hfr, hz, by rw [setV_length]; exact hroom, by rw [setV_length]; exact hvl, fun j hj => by
        have hE := X.regrow_ext (i := s.nx) (b := b) (.cells (setV vs (n * te.size) ds).toArray e fr) r.mu_none (r.ow _ _ _ hs hm).2
        by_cases hjn : j < n
        · have e : joinF n f g j = f j := by simp [joinF, show Nat.blt j n = true from by simpa [Nat.blt_eq] using hjn]
          rw [e, setV_row_low (by
            have := Nat.mul_le_mul_right te.size (show j + 1 ≤ n by omega)
            rwa [Nat.succ_mul] at this)]
          exact (hr j (by omega)).mono hE
        · have hb : Nat.blt j n = false := by
            cases hb : Nat.blt j n with
            | false => rfl
            | true => exact absurd (by simpa [Nat.blt_eq] using hb) hjn
          have e : joinF n f g j = g (j - n) := by simp [joinF, hb]
          obtain ⟨d, rfl⟩ : ∃ d, j = n + d := ⟨j - n, by omega⟩
          rw [e, Nat.add_sub_cancel_left, setV_row_mid hdl hroom (by omega)]
          exact hg _ hE d (by omega)⟩
    refine ⟨.slice (some ⟨b, o, none⟩) (n + m) cap, _, fun ty => ?_, ?_, hrel, hfrm⟩
    · rw [hrun ty]
      rcases ho0 with h0 | h0
      · have hm0 : m = 0 := by omega
        have hn0 : n = 0 := by omega
        subst hm0; subst hn0
        have hds : ds = [] := List.eq_nil_of_length_eq_zero (by simpa using hdl)
        subst hds
        have e : X.w.heap.setIfInBounds b (Obj.cells vs.toArray e fr) = X.w.heap := by
          apply Array.ext_getElem?
          intro j
          by_cases hj : b = j
          · subst hj
            rw [Array.getElem?_setIfInBounds_self_of_lt hlt]; exact hh.symm
          · rw [Array.getElem?_setIfInBounds_ne hj]
        simp [storeCells, Cx.regrow, setV, e]
      · subst h0
        simp only [add_off, Nat.zero_add, hst, Result.andThen_ok]
        rfl
    · refine .hs 0 (n + m) te.size none cap o (upd_same ..) (by simpa [Cx.regrow] using hlt) hz hfit (fun c h => by cases h) (by
        rcases ho with h | h
        · exact .inl h
        · exact .inr h) hbs
theorem appendG_sound (hΓ : GOk P E.Γ) (r : Rel s a X) {T xT : Nat} {q : Array TypeId} (hq0 : q[0]? = some T) (hq1 : q[1]? = some xT) {x y : AV} {cx cy : Value} (hx : Rep X false x cx) (hy : Rep X false y cy) :
    (appendG E s T xT x y).sat fun v s' => ∃ cv Y, (∀ ty, (Builtin.append_ q ty #[cx, cy]).run P X.w = .ok cv Y.w) ∧ Rep Y false v cv ∧ Rel s' a Y ∧ Fr X Y := by
  have hp : ∀ {tag n f c}, Rep X false (.sl tag n f) c → Rep X true (.sl .no n f) c := by
    intro tag n f c h
    cases h with
    | snil f A _ _ => exact .snil f A trivial (fun h => by cases h)
    | sl b o cap sz g hz hc hr hg ha ht => exact .sl b o cap sz g hz hc hr hg ha trivial
  unfold appendG
  split
  · rename_i ti xd hti hxd
    obtain ⟨k⟩ := hΓ _ _ hti
    obtain ⟨xi, ⟨kx⟩, hxe⟩ := tdOf_ok hΓ hxd
    split
    · rename_i e hd
      split
      · trivial
      rename_i te hte
      obtain ⟨ke⟩ := hΓ _ _ hte
      split
      · rename_i xe
        split
        · -- what stays is appended
          rename_i tag' m g
          obtain ⟨B, lenB, capB, rfl⟩ : ∃ B l c, cy = .slice B l c := by cases hy <;> exact ⟨_, _, _, rfl⟩
          have src : (∀ i, i < m → (g i).cells.length = te.size) → lenB = m ∧ ∃ ds : List Value, ds.length = m * te.size ∧ (∀ w', (∀ c, w'.cell? c = X.w.cell? c) → (Builtin.firstCells te.size m (.slice B m capB)).run P w' = .ok ds.toArray w') ∧
              ∀ j, j < m → RepL X true (g j).cells ((ds.drop (j * te.size)).take te.size) := by
            intro hcg
            obtain ⟨rfl, hmc, ds, hdl, hdn, hda, hdr⟩ := flat_of (hp hy) hcg
            exact ⟨rfl, ds, hdl, fun w' hw => run_firstCells hdl hdn hda w' (fun b o v h => (hw _).trans h.1), hdr⟩
          split
          · rename_i n f
            rintro ⟨rfl, hsz, hzc, hby, hnm, hcg, hog⟩
            obtain ⟨rfl, ds, hdl, hrunB, hdr⟩ := src hcg
            obtain ⟨A, cap, rfl, hcap, hA⟩ : ∃ A c, cx = .slice A 0 c ∧ c = 0 ∧ A = none := by
              cases hx with
              | snil _ A _ hn => exact ⟨_, _, rfl, rfl, hn rfl⟩
              | sl b o cap sz g' hz hc hr hg ha ht => exact ht.elim
            subst hcap
            have hrunA : ∀ w' : World, (∀ c, w'.cell? c = X.w.cell? c) → (Builtin.firstCells te.size 0 (.slice A 0 0)).run P w' = .ok (([] : List Value).toArray) w' := by
              intro w' _
              cases A with
              | none => rfl
              | some ad => simp only [Builtin.firstCells, Nat.zero_mul]; rfl
            by_cases hm0 : lenB = 0
            · subst hm0
              have hds : ds = [] := List.eq_nil_of_length_eq_zero (by simpa using hdl)
              subst hds
              subst hA
              refine ⟨.slice none (0 + 0) 0, X, fun ty => ?_, .hs0 _ _ _ _ hsz (fun c h => by cases h), r.phantom e te.size g, Fr.refl X⟩
              rw [run_append_fits k kx hd ke (.inl ⟨_, hxe⟩) hq0 hq1 (A := none) (cy := .slice B _ capB) (fun _ => rfl) (hrunB X.w fun _ => rfl) (Nat.le_refl _) ty]
              try simp [storeCells]
            · have := grow_new r k kx hd ke (.inl ⟨_, hxe⟩) hq0 hq1 (cy := .slice B lenB capB) (hY := fun _ => rfl) (n := 0) (m := lenB) (F := g) hrunA hrunB (by simp) hdl (fun Y hE rest i hi => by
                have hi' : i < lenB := by omega
                have hii : i * te.size + te.size ≤ lenB * te.size := by
                  have := Nat.mul_le_mul_right te.size (show i + 1 ≤ lenB by omega)
                  rwa [Nat.succ_mul] at this
                rw [List.nil_append, List.drop_append_of_le_length (by omega), List.take_append_of_le_length (by simp; omega)]
                exact (RepL.pmono hE.at_ rfl (hdr i hi')).of_pure) hsz (by simpa using hby) (by simpa using hnm) hzc (by omega)
              simpa using this
          · rename_i i lo n sz cp
            split
            · rename_i U' sz' n' f hs
              rintro ⟨rfl, rfl, rfl, rfl, hn', hsz, hzc, hby, hnm, hcg, hog⟩
              obtain ⟨rfl, ds, hdl, hrunB, hdr⟩ := src hcg
              obtain ⟨A, len, cap, rfl⟩ : ∃ A l c, cx = .slice A l c := by cases hx <;> exact ⟨_, _, _, rfl⟩
              obtain ⟨rfl, hncap, cs, hcl, hrunA, hcr⟩ := cells_hs (P := P) r hx hs rfl (by omega)
              simp only [Nat.zero_add] at hcr
              by_cases hfit : len + lenB ≤ cap
              · refine grow_fits r k kx hd ke (.inl ⟨_, hxe⟩) hq0 hq1 (cy := .slice B lenB capB) (fun _ => rfl) hx hs hn' hrunB hdl (fun Y hE j hj => (RepL.pmono hE.at_ rfl (hdr j hj)).of_pure) ?_ hfit
                intro v hv
                obtain ⟨j, hj⟩ := List.getElem?_of_mem hv
                obtain ⟨i, hi, hm⟩ := row_div hsz hdl hj
                exact ones_cells (hdr i hi) (hog i hi) v hm
              · exact grow_new (r.kill i) k kx hd ke (.inl ⟨_, hxe⟩) hq0 hq1 (cy := .slice B lenB capB) (fun _ => rfl) hrunA hrunB hcl hdl (fun Y hE rest => pieces_of_flat hcl (fun i hi => (hcr i hi).mono hE) hdl (fun i hi => (RepL.pmono hE.at_ rfl (hdr i hi)).of_pure)) hsz hby hnm hzc hfit
            · trivial
          · trivial
        · -- what is one's own is appended
          rename_i i2 lo2 m sz2 cp2
          split
          · rename_i U3 sz3 n3 g hs2
            obtain ⟨B, lenB, capB, rfl⟩ : ∃ B l c, cy = .slice B l c := by cases hy <;> exact ⟨_, _, _, rfl⟩
            split
            · rename_i n f
              rintro ⟨rfl, rfl, rfl, hle, hsz, hzc, hby, hnm⟩
              obtain ⟨rfl, _, ds, hdl, hrunB, hdr⟩ := cells_hs (P := P) r hy hs2 rfl hle
              obtain ⟨A, cap, rfl, hcap, hA⟩ : ∃ A c, cx = .slice A 0 c ∧ c = 0 ∧ A = none := by
                cases hx with
                | snil _ A _ hn => exact ⟨_, _, rfl, rfl, hn rfl⟩
                | sl b o cap sz g' hz hc hr hg ha ht => exact ht.elim
              subst hcap
              have hrunA : ∀ w' : World, (∀ c, w'.cell? c = X.w.cell? c) → (Builtin.firstCells te.size 0 (.slice A 0 0)).run P w' = .ok (([] : List Value).toArray) w' := by
                intro w' _
                cases A with
                | none => rfl
                | some ad => simp only [Builtin.firstCells, Nat.zero_mul]; rfl
              by_cases hm0 : lenB = 0
              · subst hm0
                have hds : ds = [] := List.eq_nil_of_length_eq_zero (by simpa using hdl)
                subst hds
                subst hA
                refine ⟨.slice none (0 + 0) 0, X, fun ty => ?_, .hs0 _ _ _ _ hsz (fun c h => by cases h), r.phantom e te.size _, Fr.refl X⟩
                rw [run_append_fits k kx hd ke (.inl ⟨_, hxe⟩) hq0 hq1 (A := none) (cy := .slice B _ capB) (fun _ => rfl) (hrunB X.w fun _ => rfl) (Nat.le_refl _) ty]
                try simp [storeCells]
              · have := grow_new r k kx hd ke (.inl ⟨_, hxe⟩) hq0 hq1 (cy := .slice B lenB capB) (hY := fun _ => rfl) (n := 0) (m := lenB) (F := fun j => g (lo2 + j)) hrunA hrunB (by simp) hdl (fun Y hE rest i hi => by
                  have hi' : i < lenB := by omega
                  have hii : i * te.size + te.size ≤ lenB * te.size := by
                    have := Nat.mul_le_mul_right te.size (show i + 1 ≤ lenB by omega)
                    rwa [Nat.succ_mul] at this
                  rw [List.nil_append, List.drop_append_of_le_length (by omega), List.take_append_of_le_length (by simp; omega)]
                  exact (hdr i hi').mono hE) hsz (by simpa using hby) (by simpa using hnm) hzc (by omega)
                simpa using this
            · rename_i i lo n sz cp
              split
              · rename_i U' sz' n' f hs
                rintro ⟨rfl, rfl, rfl, rfl, hn', rfl, rfl, hle, hsz, hzc, hby, hnm, hog⟩
                obtain ⟨rfl, _, ds, hdl, hrunB, hdr⟩ := cells_hs (P := P) r hy hs2 rfl hle
                obtain ⟨A, len, cap, rfl⟩ : ∃ A l c, cx = .slice A l c := by cases hx <;> exact ⟨_, _, _, rfl⟩
                obtain ⟨rfl, hncap, cs, hcl, hrunA, hcr⟩ := cells_hs (P := P) r hx hs rfl (by omega)
                simp only [Nat.zero_add] at hcr
                by_cases hfit : len + lenB ≤ cap
                · refine grow_fits r k kx hd ke (.inl ⟨_, hxe⟩) hq0 hq1 (cy := .slice B lenB capB) (fun _ => rfl) hx hs hn' hrunB hdl (fun Y hE j hj => (hdr j hj).mono hE) ?_ hfit
                  intro v hv
                  obtain ⟨j, hj⟩ := List.getElem?_of_mem hv
                  obtain ⟨i, hi, hm⟩ := row_div hsz hdl hj
                  exact ones_cells (hdr i hi) (hog i hi) v hm
                · exact grow_new (r.kill i) k kx hd ke (.inl ⟨_, hxe⟩) hq0 hq1 (cy := .slice B lenB capB) (fun _ => rfl) hrunA hrunB hcl hdl (fun Y hE rest => pieces_of_flat hcl (fun i hi => (hcr i hi).mono hE) hdl (fun i hi => (hdr i hi).mono hE)) hsz hby hnm hzc hfit
              · trivial
            · trivial
          · trivial
        · trivial
      · -- a text is appended
        split
        · rename_i b
          cases hy
          have hY : ∀ w, (Builtin.lenOf (.string ⟨b.toArray⟩)).run P w = .ok b.length w := fun w => by simp [Builtin.lenOf, ofBytes_data]
          have hrunB : ∀ w' : World, (∀ c, w'.cell? c = X.w.cell? c) → (Builtin.firstCells 1 b.length (.string ⟨b.toArray⟩)).run P w' = .ok (b.map fun x => Value.int .u8 x.toNat).toArray w' := fun w' _ => by
            simp only [Builtin.firstCells, Sem.run_pure]
            rw [extract_bytes]
            simp
          have hdl : (b.map fun x => Value.int .u8 (x.toNat : Int)).length = b.length * 1 := by simp
          have hdr : ∀ Y : Cx, ∀ j, j < b.length → RepL Y false (strF b j).cells (((b.map fun x => Value.int .u8 (x.toNat : Int)).drop (j * 1)).take 1) := fun Y j hj => by
            have e : ((b.map fun x => Value.int .u8 (x.toNat : Int)).drop (j * 1)).take 1 = [.int .u8 ((b.getD j 0).toNat : Int)] := by
              apply List.ext_getElem?
              intro q
              rw [List.getElem?_take]
              by_cases hq : q < 1
              · have hq0 : q = 0 := by omega
                subst hq0
                rw [if_pos (by omega), List.getElem?_drop]
                simp [List.getD_eq_getElem?_getD, hj]
              · rw [if_neg hq, List.getElem?_eq_none (by simp; omega)]
            rw [e]
            exact .cons (.int ..) .nil
          split
          · rename_i n f
            rintro ⟨rfl, hsz, hzc, hby, hnm⟩
            obtain ⟨A, cap, rfl, hcap, hA⟩ : ∃ A c, cx = .slice A 0 c ∧ c = 0 ∧ A = none := by
              cases hx with
              | snil _ A _ hn => exact ⟨_, _, rfl, rfl, hn rfl⟩
              | sl b o cap sz g' hz hc hr hg ha ht => exact ht.elim
            subst hcap
            have hrunA : ∀ w' : World, (∀ c, w'.cell? c = X.w.cell? c) → (Builtin.firstCells te.size 0 (.slice A 0 0)).run P w' = .ok (([] : List Value).toArray) w' := by
              intro w' _
              cases A with
              | none => rfl
              | some ad => simp only [Builtin.firstCells, Nat.zero_mul]; rfl
            by_cases hm0 : b.length = 0
            · have hb0 : b = [] := List.eq_nil_of_length_eq_zero hm0
              subst hb0
              subst hA
              refine ⟨.slice none (0 + 0) 0, X, fun ty => ?_, .hs0 _ _ _ _ (Nat.zero_lt_succ 0) (fun c h => by cases h), r.phantom e 1 _, Fr.refl X⟩
              rw [run_append_fits k kx hd ke (.inr hxe) hq0 hq1 (A := none) (n := 0) (cap := 0) hY (by rw [hsz]; exact hrunB X.w fun _ => rfl) (Nat.le_refl _) ty]
              simp [storeCells]
            · have := grow_new r k kx hd ke (.inr hxe) hq0 hq1 (hY := hY) (n := 0) (m := b.length) (F := strF b) hrunA (by rw [hsz]; exact hrunB) (by simp) (by rw [hsz]; exact hdl) (fun Y hE rest i hi => by
                have hi' : i < b.length := by omega
                rw [hsz, List.nil_append, List.drop_append_of_le_length (by simp; omega), List.take_append_of_le_length (by simp; omega)]
                exact hdr Y i hi') (by omega) (by simpa using hby) (by simpa using hnm) hzc (by omega)
              rw [hsz] at this
              simpa using this
          · rename_i i lo n sz cp
            split
            · rename_i U' sz' n' f hs
              rintro ⟨rfl, rfl, rfl, rfl, hsz, hn', hzc, hby, hnm⟩
              obtain ⟨A, len, cap, rfl⟩ : ∃ A l c, cx = .slice A l c := by cases hx <;> exact ⟨_, _, _, rfl⟩
              obtain ⟨rfl, hncap, cs, hcl, hrunA, hcr⟩ := cells_hs (P := P) r hx hs rfl (by omega)
              simp only [Nat.zero_add] at hcr
              by_cases hfit : len + b.length ≤ cap
              · have := grow_fits r k kx hd ke (.inr hxe) hq0 hq1 (g := strF b) (n' := n') hY (by rw [hsz]; exact hx) (by rw [hsz]; exact hs) hn' (by rw [hsz]; exact hrunB) (by rw [hsz]; exact hdl) (fun Y hE j hj => by rw [hsz]; exact hdr Y j hj) (fun v hv => by
                  obtain ⟨x, _, rfl⟩ := List.mem_map.1 hv
                  rfl) hfit
                rw [hsz] at this
                exact this
              · have := grow_new (r.kill i) k kx hd ke (.inr hxe) hq0 hq1 hY (by rw [hsz]; exact hrunA) (by rw [hsz]; exact hrunB) (by rw [hsz]; exact hcl) (by rw [hsz]; exact hdl) (fun Y hE rest => by
                  rw [hsz]
                  exact pieces_of_flat hcl (fun i hi => (hcr i hi).mono hE) hdl (fun i hi => hdr Y i hi)) (by omega) hby hnm hzc hfit
                rw [hsz] at this
                exact this
            · trivial
          · trivial
        · trivial
      · trivial
    · trivial
  · trivial
theorem appendA_sound (hΓ : GOk P E.Γ) (r : Rel s a X) {T xT : Nat} {q : Array TypeId} (hq0 : q[0]? = some T) (hq1 : q[1]? = some xT) {x y : AV} {cx cy : Value} (hx : Rep X false x cx) (hy : Rep X false y cy) :
    (appendA E s T xT x y).sat fun v s' => ∃ cv Y, (∀ ty, (Builtin.append_ q ty #[cx, cy]).run P X.w = .ok cv Y.w) ∧ Rep Y false v cv ∧ Rel s' a Y ∧ Fr X Y := by
  unfold appendA
  split
  · exact appendB_sound hΓ r hq0 hq1 (tighten_rep hx) hy
  · split
    · split
      · exact appendB_sound hΓ r hq0 hq1 hx hy
      · exact appendG_sound hΓ r hq0 hq1 hx hy
    · split
      · exact appendB_sound hΓ r hq0 hq1 (tighten_rep hx) hy
      · exact appendG_sound hΓ r hq0 hq1 hx hy

/-! ### Calls -/
/-- A function of the program with a body. -/
def callable (P : Program) (f : FuncId) : Bool :=
  match P.funcs[f]? with
  | some fn => !(fn.name == "runtime.NumGoroutine") && fn.body.isSome
  | none => false
/-- A call that is answered at once. -/
def XC (P : Program) (f : FuncId) (as : List AV) (r : AV) : Prop :=
  ∀ (X : Cx) (cargs : List Value), RepL X true as cargs → ∃ cv, (callFunc f cargs.toArray).run P X.w = .ok (.value cv) X.w ∧ Rep X true r cv
/-- What a call comes to: by the function's body, or at once. -/
def Called (P : Program) (G : World → Prop) (f : FuncId) (as : List AV) (r : AV) : Prop := (callable P f = true ∧ PC P G f as r) ∨ XC P f as r
structure EnvOk (P : Program) (E : Env) : Prop where
  g : GOk P E.Γ
  s : ∀ w w', E.G w → RowKit.Below w.heap.size w w' → E.G w'
  t : ∀ f as, match E.T f as with
    | .no => True
    | .yes r => Called P E.G f as r
    | @CR.need C _ r => C → Called P E.G f as r
  h : ∀ f args m, E.hf f = true → match E.H f args m with
    | .fail => True
    | .ok v m' => callable P f = true ∧ HC P E.G f args m v m'
    | @Res.need C _ v m' => C → callable P f = true ∧ HC P E.G f args m v m'
theorem EnvOk.at_ {P : Program} {E : Env} (hE : EnvOk P E) {X : Cx} : GB E.G X → E.G X.w := fun ⟨w0, h1, h2, _⟩ => hE.s w0 X.w h1 h2
theorem run_callFunc {f : FuncId} (h : callable P f = true) (args : Array Value) (w : World) : (callFunc f args).run P w = .ok (.enter f args) w := by
  unfold callable at h
  split at h
  · rename_i fn hf
    simp only [Bool.and_eq_true, Bool.not_eq_true', beq_eq_false_iff_ne, ne_eq] at h
    have hb : fn.body.isNone = false := by
      cases hx : fn.body with
      | none => simp [hx] at h
      | some _ => rfl
    simp [callFunc, hf, h.1]
    intro hq
    simp [hq] at hb
  · cases h

theorem Ext.of_below {w' : World} {L' : Nat → Option Nat} (hb : RowKit.Below X.w.heap.size X.w w') (hL : ∀ b, b < X.w.heap.size → L' b = X.L b) : Ext X ⟨w', L', X.μ, X.τ, X.κ, X.own, X.bs⟩ := by
  rintro b o v ⟨h1, h2⟩
  have hlt := cell_lt h1
  exact ⟨(cell_congr (hb.block b hlt)).trans h1, fun n hn => h2 n ((hL b hlt).symm.trans hn)⟩

theorem call_gives {G : World → Prop} {o : Oper} (r : Rel s a X) (hg : G X.w) {f : FuncId} {as : List AV} {cargs : List Value} {v : AV} (hc : callable P f = true) (hp : PC P G f as v) (ha : RepL X true as cargs)
    (hrun : (execOp a.eval o).run P X.w = (callFunc f cargs.toArray).run P X.w) : Gives P o a X v s := by
  intro next Q hn
  unfold Oper.wp
  rw [hrun, run_callFunc hc, Oper.upon_enter]
  have ha' : RepL (Cx.bare X.w X.L) true as cargs := RepL.pmono (X := X) (Y := Cx.bare X.w X.L) (fun _ _ _ h => h) rfl ha
  refine (hp X.w X.L cargs hg ha').mono ?_
  rintro e w' ⟨cv, L', rfl, hr, hb, hL⟩
  let Y : Cx := ⟨w', fun b => if b < w'.heap.size then L' b else none, X.μ, X.τ, X.κ, fun b => if b < X.w.heap.size then X.own b else none, X.bs⟩
  have hS : Same X Y := {
    os := hb.os
    tape := hb.tape
    output := hb.output
    size := hb.size
    blk := hb.block
    L := fun b hlt => by
      have : b < w'.heap.size := Nat.lt_of_lt_of_le hlt hb.size
      simp only [Y, if_pos this]; exact hL b hlt
    own := fun b hlt => by simp only [Y, if_pos hlt]
    bs := rfl
    mu := rfl
    tau := rfl
    kappa := rfl }
  refine hn cv Y (hS.rel r) ?_ hS.fr
  refine Rep.of_pure (Rep.pmono (X := Cx.bare w' L') (Y := Y) ?_ rfl hr)
  rintro b off u ⟨h1, h2⟩
  refine ⟨h1, fun n hn => h2 n ?_⟩
  have hlt := cell_lt h1
  have : Y.L b = L' b := by simp only [Y]; exact if_pos hlt
  exact this.symm.trans hn

theorem called_gives {G : World → Prop} {o : Oper} (r : Rel s a X) (hg : G X.w) {f : FuncId} {as : List AV} {cargs : List Value} {v : AV} (hc : Called P G f as v) (ha : RepL X true as cargs)
    (hrun : (execOp a.eval o).run P X.w = (callFunc f cargs.toArray).run P X.w) : Gives P o a X v s := by
  rcases hc with ⟨hc, hp⟩ | hx
  · exact call_gives r hg hc hp ha hrun
  · obtain ⟨cv, h1, h2⟩ := hx X cargs ha
    exact Gives.val (hrun.trans h1) r (Rep.of_pure h2)

/-! ### All operations -/
theorem Res.sat_of {v : Option AV} {G : AV → St → Prop} (h : ∀ x, v = some x → G x s) : (Res.of s v).sat G := by
  cases v with
  | none => trivial
  | some x => exact h x rfl
theorem Res.sat_imp {R : Res} {G H : AV → St → Prop} (h : R.sat G) (hi : ∀ v s, G v s → H v s) : R.sat H := by
  cases R with
  | fail => trivial
  | ok v s => exact hi _ _ h
  | need C v s => exact fun c => hi _ _ (h c)
theorem evF_sat {x : Operand} {k : AV → Res} {G : AV → St → Prop} (h : ∀ v, ev s x = some v → (k v).sat G) : (evF s x .fail k).sat G := by
  rw [evF_eq]
  split
  · rename_i v hv; exact h v hv
  · trivial
theorem evsF_sat {x : List Operand} {k : List AV → Res} {G : AV → St → Prop} (h : ∀ v, evs s x = some v → (k v).sat G) : (evsF s x .fail k).sat G := by
  rw [evsF_eq]
  split
  · rename_i v hv; exact h v hv
  · trivial

theorem evo_rep (r : Rel s a X) {x : Option Operand} {y : Option AV} (h : evo s x = some y) : (y = none ∧ x.map a.eval = none) ∨ ∃ l c, y = some l ∧ x.map a.eval = some c ∧ Rep X false l c := by
  cases x with
  | none => simp only [evo, Option.some.injEq] at h; subst h; exact .inl ⟨rfl, rfl⟩
  | some x =>
    simp only [evo, evF_eq] at h
    split at h
    · rename_i v hv
      injection h with h; subst h
      exact .inr ⟨v, _, rfl, rfl, ev_rep r hv⟩
    · cases h
end
end Go.Ab
