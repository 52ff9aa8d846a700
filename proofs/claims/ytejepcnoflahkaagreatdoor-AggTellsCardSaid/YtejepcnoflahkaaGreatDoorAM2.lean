/- Sorted lists of values, in plain Lean. The package agg: a row that a call has made, as one's own; AppendSeq as a contract of the evaluator. slices.insertionSortCmpFunc upon values: the walk. slices.insertionSortCmpFunc upon values, as a contract of the evaluator. Parts of a row sorted and exchanged, in plain Lean. What a total hangs on, in plain Lean: not on the order of its values, nor on NULLs; a distinct one on each value once. slices.swapRangeCmpFunc and slices.rotateCmpFunc upon values: the walk. -/
import Derived.Test.YtejepcnoflahkaaGreatDoorAM1
import Derived.Test.YtejepcnoflahkaaGreatDoorACmp
import Derived.Test.YtejepcnoflahkaaGreatDoorAColl
import Derived.Test.YtejepcnoflahkaaGreatDoorAWalk6
import Derived.Test.YtejepcnoflahkaaGreatDoorASpec
import Derived.Test.YtejepcnoflahkaaGreatDoorAWalk5
namespace Go.Proofs.YtejepcnoflahkaaGreatDoor
open Go Go.Ab
set_option linter.unusedVariables false
set_option linter.unusedSimpArgs false
set_option maxRecDepth 100000
set_option maxHeartbeats 8000000

def Srt (l : List V) : Prop := l.Pairwise fun a b => compareV a b ≤ 0
theorem cv_total (a b : V) : compareV a b ≤ 0 ∨ compareV b a ≤ 0 := by
  have := acv_anti a b
  omega
theorem cv_le_trans {a b c : V} (h1 : compareV a b ≤ 0) (h2 : compareV b c ≤ 0) : compareV a c ≤ 0 := (acv_trans a b c).1 h1 h2
theorem ins_perm (v : V) : ∀ l : List V, (insV v l).Perm (v :: l)
  | [] => .refl _
  | x :: l => by
    unfold insV
    split
    · exact .refl _
    · exact ((ins_perm v l).cons x).trans (.swap v x l)
theorem sort_perm : ∀ l : List V, (sortV l).Perm l
  | [] => .refl _
  | x :: l => (ins_perm x (sortV l)).trans ((sort_perm l).cons x)
theorem ins_srt (v : V) : ∀ l : List V, Srt l → Srt (insV v l)
  | [], _ => by unfold insV Srt; simp
  | x :: l, h => by
    obtain ⟨h1, h2⟩ := List.pairwise_cons.1 h
    unfold insV
    split
    · rename_i hlt
      refine List.pairwise_cons.2 ⟨fun y hy => ?_, h⟩
      rcases List.mem_cons.1 hy with rfl | hy
      · omega
      · exact cv_le_trans (by omega) (h1 y hy)
    · rename_i hge
      refine List.pairwise_cons.2 ⟨fun y hy => ?_, ins_srt v l h2⟩
      rcases List.mem_cons.1 ((ins_perm v l).mem_iff.1 hy) with rfl | hy
      · have := acv_anti x y
        omega
      · exact h1 y hy
theorem sort_srt : ∀ l : List V, Srt (sortV l)
  | [] => List.Pairwise.nil
  | x :: l => ins_srt x (sortV l) (sort_srt l)
theorem srt_unique : ∀ {l m : List V}, Srt l → Srt m → l.Perm m → (∀ x ∈ l, right x = true) → l = m
  | [], m, _, _, hp, _ => (List.nil_perm.1 hp).symm
  | x :: l, m, hl, hm, hp, hr => by
    cases m with
    | nil => exact absurd (List.perm_nil.1 hp) (by simp)
    | cons y m =>
      obtain ⟨h1, h2⟩ := List.pairwise_cons.1 hl
      obtain ⟨h3, h4⟩ := List.pairwise_cons.1 hm
      have hy : y ∈ x :: l := hp.mem_iff.2 (by simp)
      have hx : x ∈ y :: m := hp.mem_iff.1 (by simp)
      have hxy : x = y := by
        rcases List.mem_cons.1 hy with e | hy
        · exact e.symm
        · rcases List.mem_cons.1 hx with e | hx
          · exact e
          · have a1 := h1 y hy
            have a2 := h3 x hx
            have a3 := acv_anti x y
            exact (acv_zero (hr x (by simp)) (hr y (by simp [hy]))).1 (by omega)
      subst hxy
      rw [srt_unique h2 h4 ((List.perm_cons x).1 hp) (fun z hz => hr z (by simp [hz]))]
theorem sort_eq {l m : List V} (hm : Srt m) (hp : m.Perm l) (hr : ∀ x ∈ l, right x = true) : sortV l = m :=
  srt_unique (sort_srt l) hm ((sort_perm l).trans hp.symm) fun x hx => hr x ((sort_perm l).mem_iff.1 hx)
theorem sort_perm_eq {l m : List V} (hp : l.Perm m) (hr : ∀ x ∈ l, right x = true) : sortV l = sortV m :=
  sort_eq (sort_srt m) ((sort_perm m).trans hp.symm) hr
theorem sort_len (l : List V) : (sortV l).length = l.length := (sort_perm l).length_eq
/-- the part from a to b sorted -/
def segSort (l : List V) (a b : Nat) : List V := l.take a ++ (sortV ((l.drop a).take (b - a)) ++ l.drop b)
theorem seg_len (l : List V) (a b : Nat) (h1 : a ≤ b) (h2 : b ≤ l.length) : (segSort l a b).length = l.length := by
  unfold segSort
  simp only [List.length_append, sort_len, List.length_take, List.length_drop]
  omega
/-- x put between: sorted again -/
theorem mid_srt {A B : List V} {x : V} (h : Srt (A ++ B)) (hB : ∀ y ∈ B, compareV x y < 0) (hA : ∀ y ∈ A.getLast?, ¬ compareV x y < 0) : Srt (A ++ x :: B) := by
  obtain ⟨h1, h2, h3⟩ := List.pairwise_append.1 h
  refine List.pairwise_append.2 ⟨h1, List.pairwise_cons.2 ⟨fun y hy => by have := hB y hy; omega, h2⟩, fun y hy z hz => ?_⟩
  rcases List.mem_cons.1 hz with rfl | hz
  · -- y is at most the last of A
    have hne : A ≠ [] := fun e => by rw [e] at hy; cases hy
    have hl := hA (A.getLast hne) (by rw [List.getLast?_eq_some_getLast hne]; rfl)
    have ha := acv_anti z (A.getLast hne)
    have hlast : compareV (A.getLast hne) z ≤ 0 := by omega
    by_cases e : y = A.getLast hne
    · rw [e]; exact hlast
    · have hyl : compareV y (A.getLast hne) ≤ 0 := by
        have hd : A.dropLast ++ [A.getLast hne] = A := List.dropLast_concat_getLast hne
        rw [← hd] at h1 hy
        obtain ⟨_, _, h5⟩ := List.pairwise_append.1 h1
        rcases List.mem_append.1 hy with hy | hy
        · exact h5 y hy _ (by simp)
        · exact absurd (by simpa using hy) e
      exact cv_le_trans hyl hlast
  · exact h3 y hy z hz
theorem seg_step {l A B : List V} {a i : Nat} {x : V} (ha : a ≤ i) (hx : l[i]? = some x) (hS : sortV ((l.drop a).take (i - a)) = A ++ B) (hB : ∀ y ∈ B, compareV x y < 0) (hA : ∀ y ∈ A.getLast?, ¬ compareV x y < 0) (hr : ∀ y ∈ l, right y = true) :
    segSort l a (i + 1) = l.take a ++ ((A ++ x :: B) ++ l.drop (i + 1)) := by
  have hlt : i < l.length := (List.getElem?_eq_some_iff.1 hx).1
  have e1 : (l.drop a).take (i + 1 - a) = (l.drop a).take (i - a) ++ [x] := by
    rw [show i + 1 - a = (i - a) + 1 from by omega, List.take_add_one, List.getElem?_drop, show a + (i - a) = i from by omega, hx]
    rfl
  have e2 : sortV ((l.drop a).take (i + 1 - a)) = A ++ x :: B := by
    refine sort_eq (mid_srt (hS ▸ sort_srt _) hB hA) ?_ fun y hy => hr y (List.mem_of_mem_drop (List.mem_of_mem_take hy))
    rw [e1]
    have hp : (A ++ B).Perm ((l.drop a).take (i - a)) := hS ▸ sort_perm _
    exact (List.perm_middle.trans (hp.cons x)).trans (List.perm_append_comm (l₁ := [x]))
  unfold segSort
  rw [e2]
theorem seg_at {l : List V} {a i : Nat} {x : V} (hx : l[i]? = some x) : segSort l a i = l.take a ++ (sortV ((l.drop a).take (i - a)) ++ x :: l.drop (i + 1)) := by
  unfold segSort
  obtain ⟨hlt, h⟩ := List.getElem?_eq_some_iff.1 hx
  rw [List.drop_eq_getElem_cons hlt, h]
/-- two that lie side by side, turned -/
theorem swap_vF (Q T : List V) (x y : V) (q : Nat) : upd (upd (vF (Q ++ y :: x :: T)) (Q.length + 1) (encV y)) Q.length (encV x) q = vF (Q ++ x :: y :: T) q := by
  by_cases h1 : q = Q.length
  · subst h1
    rw [upd_same]
    unfold vF
    rw [List.getD_eq_getElem?_getD, List.getElem?_append_right (Nat.le_refl _), Nat.sub_self]
    rfl
  · rw [upd_ne _ _ h1]
    by_cases h2 : q = Q.length + 1
    · subst h2
      rw [upd_same]
      unfold vF
      rw [List.getD_eq_getElem?_getD, List.getElem?_append_right (Nat.le_succ _), show Q.length + 1 - Q.length = 1 from by omega]
      rfl
    · rw [upd_ne _ _ h2]
      unfold vF
      rw [List.getD_eq_getElem?_getD, List.getD_eq_getElem?_getD]
      by_cases h3 : q < Q.length
      · rw [List.getElem?_append_left h3, List.getElem?_append_left h3]
      · rw [List.getElem?_append_right (by omega), List.getElem?_append_right (by omega)]
        obtain ⟨r, hr⟩ : ∃ r, q - Q.length = r + 2 := ⟨q - Q.length - 2, by omega⟩
        rw [hr]
        rfl
theorem at_last (Q T : List V) (x : V) : (Q ++ x :: T).getD Q.length null = x := by
  rw [List.getD_eq_getElem?_getD, List.getElem?_append_right (Nat.le_refl _), Nat.sub_self]
  rfl

/-- a block that a call has made, by a name of one's own -/
def Cx.got (X : Cx) (i g n : Nat) (w' : World) : Cx :=
  { X with w := w', L := fun b => if b < X.w.heap.size then X.L b else if b = g then some 0 else none, own := fun b => if b < X.w.heap.size then X.own b else if b = g then some (.inl i) else none,
           μ := upd X.μ i (some g), bs := fun b => if b < X.w.heap.size then X.bs b else n }
section
variable {X : Cx} {i g n : Nat} {w' : World} (hb : RowKit.Below X.w.heap.size X.w w') (hi : X.μ i = none)
include hb hi
theorem Cx.got_ext : Ext2 X (Cx.got X i g n w') where
  bs := fun b h => if_pos h
  lt := hb.size
  at_ := fun b o v ⟨h1, h2⟩ => by
    have hl := cell_lt h1
    exact ⟨(cell_congr (hb.block b hl)).trans h1, fun m hm => h2 m ((if_pos hl).symm.trans hm)⟩
  mu := fun j b hj => by
    have : j ≠ i := fun e => by rw [e, hi] at hj; cases hj
    exact (upd_ne _ _ this).trans hj
  nil := fun p t ht => by cases t <;> exact ht
  tag := fun p t b o cap sz len ht => by cases t <;> exact ht
theorem Cx.got_fr : Fr X (Cx.got X i g n w') :=
  ⟨hb.os, hb.tape, hb.output, hb.size, fun b h ho => ⟨hb.block b h, (if_pos h).trans ho, if_pos h⟩, Cx.got_ext hb hi⟩
end
theorem Rel.got {s : St} {a : Act} {X : Cx} (r : Rel s a X) {g n : Nat} {w' : World} (hb : RowKit.Below X.w.heap.size X.w w') (hg : X.w.heap.size ≤ g) (hg2 : g < w'.heap.size) (blk : Blk) (hk : BlkRel (Cx.got X s.nx g n w') g blk) : Rel (s.new blk) a (Cx.got X s.nx g n w') := by
  have e := Cx.got_ext (n := n) (g := g) hb r.mu_none
  exact {
    size := r.size
    dfr := r.dfr
    tmps := fun t => (r.tmps t).mono e
    heap := fun i bl hi => by
      by_cases h : i = s.nx
      · subst h
        rw [show (s.new blk).h s.nx = some blk from upd_same ..] at hi
        cases hi
        exact ⟨Nat.lt_succ_self _, .inl ⟨_, upd_same .., hk⟩⟩
      · rw [show (s.new blk).h i = s.h i from upd_ne _ _ h] at hi
        obtain ⟨h1, h2⟩ := r.heap i bl hi
        exact ⟨Nat.lt_succ_of_lt h1, h2.mono e (upd_ne _ _ h) fun b _ hl => hb.block b hl⟩
    ow := fun i bl b hi hm => by
      by_cases h : i = s.nx
      · subst h
        rw [show (Cx.got X s.nx g n w').μ s.nx = some g from upd_same ..] at hm
        cases hm
        exact ⟨(if_neg (by omega)).trans (if_pos rfl), (if_neg (by omega)).trans (if_pos rfl)⟩
      · rw [show (s.new blk).h i = s.h i from upd_ne _ _ h] at hi
        rw [show (Cx.got X s.nx g n w').μ i = X.μ i from upd_ne _ _ h] at hm
        have := r.mu_lt _ _ hm
        obtain ⟨h1, h2⟩ := r.ow i bl b hi hm
        exact ⟨(if_pos this).trans h1, (if_pos this).trans h2⟩
    mu := fun i b hi => by
      by_cases h : i = s.nx
      · subst h
        rw [show (Cx.got X s.nx g n w').μ s.nx = some g from upd_same ..] at hi
        cases hi
        exact ⟨Nat.lt_succ_self _, hg2⟩
      · rw [show (Cx.got X s.nx g n w').μ i = X.μ i from upd_ne _ _ h] at hi
        obtain ⟨h1, h2⟩ := r.mu i b hi
        exact ⟨Nat.lt_succ_of_lt h1, Nat.lt_of_lt_of_le h2 hb.size⟩
    kap := r.kap
    kn := r.kn
    tok := fun t b cap sz ht => by
      obtain ⟨len, T, cs, h1, h2, h3, h4, h5, h6, h7⟩ := r.tok t b cap sz ht
      have hl := blk_lt h3
      exact ⟨len, T, cs, h1, h2, (hb.block b hl).trans h3, h4, h5, (if_pos hl).trans h6, (if_pos hl).trans h7⟩ }
theorem rowsV_get : ∀ (l : List V) (j : Nat) (h : j < l.length), ((rowsV l).drop (j * 3)).take 3 = (cV l[j]).toList
  | [], j, h => absurd h (Nat.not_lt_zero _)
  | v :: l, 0, _ => rfl
  | v :: l, j + 1, h => by
    have e : rowsV (v :: l) = (cV v).toList ++ rowsV l := rfl
    have e2 : (j + 1) * 3 = (cV v).toList.length + j * 3 := by show _ = 3 + _; omega
    rw [e, e2, List.drop_append]
    simp only [List.getElem_cons_succ]
    rw [show (cV v).toList.length + j * 3 - (cV v).toList.length = j * 3 from by omega, List.drop_of_length_le (by omega), List.nil_append]
    exact rowsV_get l j (by simpa using h)
theorem rep_cV {X : Cx} {p : Bool} (v : V) : RepL X p (encV v).cells (cV v).toList := .cons (.int ..) (.cons (.int ..) (.cons (.str ..) .nil))
theorem rep_encV {X : Cx} {v : V} {g : List Value} (h : RepL X true (encV v).cells g) : g = (cV v).toList := by
  cases h with | cons h1 h => cases h with | cons h2 h => cases h with | cons h3 h => cases h; cases h1; cases h2; cases h3; rfl
theorem clo_ptr {X : Cx} {f i : Nat} {v : Value} (h : Rep X false (.clo f [] [.ptr i 0]) v) : ∃ b, X.μ i = some b ∧ v = .func (.func f) #[] #[.pointer (some ⟨b, 0, none⟩)] := by
  cases h with | clo hq1 hq2 =>
    cases hq1
    cases hq2 with | cons hp hq2 =>
      cases hq2
      cases hp with | ptr _ hm => exact ⟨_, hm, rfl⟩
/-- what is left: the row -/
def rowSt (n : Nat) (f : Nat → AV) : St := (St.small [.cells [.sl (.tok 0) n f]] [(n, 34)]).new (.arr 34 3 n f)
theorem hc_append (n : Nat) (f g : Nat → AV) (hn : n ≤ 1000000000) (hf : ∀ i, i < n → isV (f i) = true) :
    HC Tryz.prog GV 199 [.sl .nil 0 g, .clo 173 [] [.ptr 0 0]] (St.small [.cells [.sl (.tok 0) n f]] [(n, 34)]) (.hs 1 0 n 3 none) (rowSt n f) := by
  intro X cargs hgb hr ha
  have r := hr.rel
  obtain ⟨v1, v2, rfl, h1, h2⟩ := repL2 ha
  have e1 : ∃ A, v1 = Value.slice A 0 0 ∧ A = none := by
    cases h1 with
    | snil f A h hz => exact ⟨A, rfl, hz rfl⟩
    | sl b o cap sz g hz hc hr hg ha ht => exact ht.elim
  obtain ⟨_, rfl, rfl⟩ := e1
  obtain ⟨b, hm, rfl⟩ := clo_ptr h2
  have hcell : ∃ cv, X.w.cell? ⟨b, 0, none⟩ = some cv ∧ Rep X false (.sl (.tok 0) n f) cv := by
    rcases (hr.heap 0 _ rfl).2 with ⟨b', hm', vs, T, hh, hl⟩ | ⟨_, _, _, _, hx⟩
    · rw [hm] at hm'; cases hm'
      obtain ⟨cv, rfl, hv⟩ := repL1 hl
      exact ⟨cv, by rw [cell_eq hh]; rfl, hv⟩
    · cases hx
  obtain ⟨cv, hc1, hc2⟩ := hcell
  -- the slice and its cells
  have hsl : ∃ A b1 o1 cap, cv = .slice A n cap ∧ (lO n f ≠ [] → A = some ⟨b1, o1, none⟩) ∧ ∀ (j : Nat) (v : V), (lO n f)[j]? = some v → ∀ q u, (cV v)[q]? = some u → X.w.cell? ⟨b1, o1 + j * 3 + q, none⟩ = some u := by
    cases hc2 with
    | snil f A h hz => exact ⟨A, 0, 0, 0, rfl, fun h => absurd rfl h, fun j v hj => by simp [lO] at hj⟩
    | sl b1 o1 cap sz g hz hcap hr' hg ha ht =>
      refine ⟨_, b1, o1, cap, rfl, fun _ => rfl, fun j v hj q u hu => ?_⟩
      have hjn : j < n := by have := (List.getElem?_eq_some_iff.1 hj).1; rwa [lO_len] at this
      have hv : v = vO (f j) := by
        simp only [lO, List.getElem?_map, List.getElem?_range hjn, Option.map_some, Option.some.injEq] at hj
        exact hj.symm
      have hgj : g j = (cV v).toList := by
        have := hr' j hjn
        rw [isV_eq (hf j hjn), ← hv] at this
        exact rep_encV this
      have hsz : sz = 3 := by rw [← hg j hjn, hgj]; rfl
      subst hsz
      exact (ha j hjn q u (by rw [hgj]; simpa using hu)).1
  obtain ⟨A, b1, o1, cap, rfl, hA, hcells⟩ := hsl
  have hcall := append_calls b 0 b1 o1 cap A (lO n f) (by rw [lO_len]; exact hn) X.w hA (by rw [lO_len]; exact hc1) hcells
  refine hcall.mono ?_
  rintro e w' ⟨v, rfl, hown, hbl⟩
  rw [lO_len] at hown
  obtain ⟨hlen, hrow⟩ := hown
  rcases hrow with ⟨rfl, rfl⟩ | ⟨g1, cap1, cur, rfl, hg1, hgb1, hc3, hc4, hc5, hc6⟩
  · -- nothing has come
    let Y : Cx := ⟨w', fun b => if b < X.w.heap.size then X.L b else none, X.μ, X.τ, X.κ, fun b => if b < X.w.heap.size then X.own b else none, X.bs⟩
    have hS : Same X Y := ⟨hbl.os, hbl.tape, hbl.output, hbl.size, hbl.block, fun b hlt => if_pos hlt, fun b hlt => if_pos hlt, rfl, rfl, rfl, rfl⟩
    have hr2 := (hS.rel r).phantom 34 3 f
    exact ⟨_, Y, rfl, rfl, ⟨hr2.heap, hr2.ow, hr2.mu, hr2.kap, hr2.kn, hr2.tok⟩, .hs0 _ _ _ _ (by decide) (fun c h => by cases h), hS.fr⟩
  · have hlt1 := (Array.getElem?_eq_some_iff.1 hgb1).1
    have hfr := Cx.got_fr (n := cur.size) (g := g1) hbl r.mu_none
    have hr2 := Rel.got (n := cur.size) r hbl hg1 hlt1 (.arr 34 3 n f) ⟨cur.toList, (0, 0), by rw [Array.toArray_toList]; exact hgb1, .inl (Nat.le_refl _), by decide, by rw [Array.length_toList]; omega, by
      rw [Array.length_toList]; exact (if_neg (by omega)).symm, fun j hj => by
        have h2 : (cur.toList.drop (j * 3)).take 3 = (cV (vO (f j))).toList := by
          have h3 := rowsV_get (lO n f) j (by rw [lO_len]; exact hj)
          rw [← hc6, List.drop_take] at h3
          rw [show (lO n f)[j]'(by rw [lO_len]; exact hj) = vO (f j) from by simp [lO]] at h3
          rw [← h3, List.take_take, show min 3 (n * 3 - j * 3) = 3 from by omega]
        rw [h2, isV_eq (hf j hj)]
        exact rep_cV _⟩
    refine ⟨_, _, rfl, rfl, ⟨hr2.heap, hr2.ow, hr2.mu, hr2.kap, hr2.kn, hr2.tok⟩, ?_, hfr⟩
    exact .hs 0 n 3 none cap1 0 (show upd X.μ 1 (some g1) 1 = some g1 from upd_same ..) hlt1 (by decide) hc3 (fun c h => by cases h) (.inr (by simp)) (by
      show (0 + cap1) * 3 ≤ if g1 < X.w.heap.size then X.bs g1 else cur.size
      rw [if_neg (by omega), hc5]; omega)
def h_append : List AV → St → Res
  | [.sl .nil n0 _, .clo c [] [.ptr i 0]], m => match m.h i with
    | some (.cells [.sl (.tok t) n f]) => .need (n0 = 0 ∧ c = 173 ∧ m.k t = some (n, 34) ∧ n ≤ 1000000000 ∧ ∀ q, q < n → isV (f q) = true) (.hs m.nx 0 n 3 none)
        (m.within (St.small [.cells [.sl (.tok 0) n f]] [(n, 34)]) (rowSt n f) [i] [t])
    | _ => .fail
  | _, _ => .fail
theorem h_append_ok (xs : List AV) (m : St) : HRok Tryz.prog GV 199 xs m (h_append xs m) := by
  unfold h_append
  split
  · rename_i n0 g c i
    split
    · rename_i t n f hi
      rintro ⟨rfl, rfl, hk, hn, hf⟩
      exact hc_small (hc_append n f g hn hf) [i] [t] (Nat.le_of_ble_eq_true rfl) (Nat.le_of_ble_eq_true rfl) rfl (by simp) (by simp) ⟨⟨rfl, _, hi, leB.refl _⟩, trivial⟩ ⟨hk, trivial⟩
    · trivial
  · trivial
def EB1 : Env := EA7.addH 199 h_append
theorem EB1_ok : EnvOk Tryz.prog EB1 := Env.addH_ok EA7_ok (by kernel_rfl) h_append_ok
theorem hc_collect (n : Nat) (f : Nat → AV) (hn : n ≤ 1000000000) (hf : ∀ i, i < n → isV (f i) = true) :
    HC Tryz.prog GV 171 [.clo 173 [] [.ptr 0 0]] (St.small [.cells [.sl (.tok 0) n f]] [(n, 34)]) (.hs 1 0 n 3 none) (St.mk' 0 2 1 [] [(0, .cells [.sl (.tok 0) n f]), (1, .arr 34 3 n f)] [(0, n, 34)]) := by
  refine hc_of EB1_ok mixed (show Tryz.prog.funcs[171]? = some Tryz.f171 from rfl) (Nat.le_of_ble_eq_true rfl) (Nat.le_of_ble_eq_true rfl) ?_
  repeat' (refine BR.mk (fun h => ?_) (fun h => ?_) <;> try contradiction)
  · exact ⟨rfl, rfl, rfl, hn, hf⟩
  · refine Go.Ab.Left.mk (Nat.le_of_ble_eq_true rfl) ⟨[], fun _ _ => rfl, Wv.same rfl, Wk.mk' rfl rfl ⟨fun _ => rfl, fun _ => trivial⟩ trivial ?_⟩
    refine BR.mk (fun _ => ?_) (fun _ => BR.mk (fun _ => ?_) fun _ => trivial)
    · exact ⟨Nat.le_of_ble_eq_true rfl, .inl ⟨rfl, _, rfl, .cons (Wv.sl rfl (fun _ _ => rfl) ⟨rfl, Nat.le_of_ble_eq_true rfl⟩) .nil⟩⟩
    · refine ⟨Nat.le_of_ble_eq_true rfl, .inl ⟨rfl, _, rfl, rfl, rfl, Nat.le_refl _, fun j hj => ?_⟩⟩
      show WvL _ _ _ (ren _ _ (f j)).cells (f j).cells
      rw [isV_eq (hf j hj)]
      exact WvL.same (l := (encV (vO (f j))).cells) rfl
def h_collect : List AV → St → Res
  | [.clo c [] [.ptr i 0]], m => match m.h i with
    | some (.cells [.sl (.tok t) n f]) => .need (c = 173 ∧ m.k t = some (n, 34) ∧ n ≤ 1000000000 ∧ ∀ q, q < n → isV (f q) = true) (.hs m.nx 0 n 3 none)
        (m.within (St.small [.cells [.sl (.tok 0) n f]] [(n, 34)]) (St.mk' 0 2 1 [] [(0, .cells [.sl (.tok 0) n f]), (1, .arr 34 3 n f)] [(0, n, 34)]) [i] [t])
    | _ => .fail
  | _, _ => .fail
theorem h_collect_ok (xs : List AV) (m : St) : HRok Tryz.prog GV 171 xs m (h_collect xs m) := by
  unfold h_collect
  split
  · rename_i c i
    split
    · rename_i t n f hi
      rintro ⟨rfl, hk, hn, hf⟩
      exact hc_small (hc_collect n f hn hf) [i] [t] (Nat.le_of_ble_eq_true rfl) (Nat.le_of_ble_eq_true rfl) rfl (by simp) (by simp) ⟨⟨rfl, _, hi, leB.refl _⟩, trivial⟩ ⟨hk, trivial⟩
    · trivial
  · trivial
def EB2 : Env := EB1.addH 171 h_collect
theorem EB2_ok : EnvOk Tryz.prog EB2 := Env.addH_ok EB1_ok (by kernel_rfl) h_collect_ok

def EB3 : Env := { EB2 with hp := true }
theorem EB3_ok : EnvOk Tryz.prog EB3 := ⟨EB2_ok.g, EB2_ok.s, EB2_ok.t, EB2_ok.h⟩
/-- a row of one's own that holds these -/
def rowOf (l : List V) : St := St.mk' 0 1 0 [] [(0, .arr 34 3 l.length (vF l))] []
theorem seg_one (l : List V) (a : Nat) : segSort l a (a + 1) = l := by
  unfold segSort
  rw [show a + 1 - a = 1 from by omega]
  have e : sortV ((l.drop a).take 1) = (l.drop a).take 1 := by
    cases l.drop a with
    | nil => rfl
    | cons x m => rfl
  rw [e, show l.drop (a + 1) = (l.drop a).drop 1 from by rw [List.drop_drop], List.take_append_drop, List.take_append_drop]
theorem seg_none (l : List V) (a : Nat) : segSort l a a = l := by
  unfold segSort
  rw [Nat.sub_self, List.take_zero]
  exact List.take_append_drop a l
theorem arr_same {mv : List (Nat × Nat)} {s s' : St} {n : Nat} {f g : Nat → AV} (h : ∀ j, j < n → f j = g j) (hg : ∀ j, j < n → isV (g j) = true) : WvB mv s s' (.arr 34 3 n f) (.arr 34 3 n g) :=
  ⟨rfl, rfl, Nat.le_refl _, fun j hj => by
    rw [h j hj, isV_eq (hg j hj)]
    exact WvL.same (l := (encV (vO (g j))).cells) rfl⟩
theorem hc_ins (n : Nat) (f : Nat → AV) (a b : Nat) (hab : a ≤ b) (hbn : b ≤ n) (hn : n ≤ 1000000000) (hf : ∀ i, i < n → isV (f i) = true) (hr : ∀ x ∈ lO n f, right x = true) :
    HC Tryz.prog GV 216 [.hs 0 0 n 3 none, .int .i64 a, .int .i64 b, .clo 53 [] []] (St.small [.arr 34 3 n f] []) (.tup []) (rowOf (segSort (lO n f) a b)) := by
  have hlen := lO_len n f
  generalize hl : lO n f = l at hlen hr
  have hseg : ∀ i, a ≤ i → i ≤ n → (segSort l a i).length = n := fun i h1 h2 => by rw [seg_len l a i h1 (by omega), hlen]
  have w1 : IntKind.i64.wrap ((a : Int) + 1) = (a : Int) + 1 := wrap_id (by unfold i64; omega)
  refine hc_of EB3_ok mixed (show Tryz.prog.funcs[216]? = some Tryz.f216 from rfl) (Nat.le_of_ble_eq_true rfl) (Nat.le_of_ble_eq_true rfl) ?_
  refine loop_fam EB3_ok mixed (σ := Nat) (fun i => a + 1 ≤ i ∧ (i ≤ b ∨ i = a + 1)) (fun i => n + 1 - i) (a + 1) ⟨Nat.le_refl _, .inr rfl⟩ 1 0 [0, 1, 2, 3] (fun i => [(8, .int .i64 i)]) [] (fun i => [(0, .arr 34 3 n (vF (segSort l a i)))]) (fun _ => []) ?_ ?_ ?_ ?_
  · rfl
  · rfl
  · refine Wk.mk' rfl rfl trivial ?_ ?_
    repeat' (refine BR.mk (fun _ => ?_) (fun _ => ?_))
    any_goals first | exact trivial | exact Wv.any _ | (refine Wv.int ?_; with_reducible rfl) | (refine Wv.str ?_; with_reducible rfl) | (refine Wv.bool ?_; with_reducible rfl) | refine Wv.int ?_ | refine Wv.str ?_ | refine Wv.bool ?_ | exact Wv.same rfl
    · rw [w1]; rfl
    · refine ⟨Nat.le_of_ble_eq_true rfl, .inl ⟨rfl, _, rfl, arr_same (fun j hj => ?_) fun j _ => rfl⟩⟩
      rw [seg_one, ← hl]
      exact lO_get hf j hj
  · rintro i ⟨hi1, hi2⟩
    repeat' (refine BR.mk (fun h => ?_) (fun h => ?_) <;> try contradiction)
    · simp only [decide_eq_true_eq] at h
      have hib : i < b := by omega
      obtain ⟨x, hx⟩ : ∃ x, l[i]? = some x := ⟨_, List.getElem?_eq_getElem (by omega)⟩
      have hSl : (sortV ((l.drop a).take (i - a))).length = i - a := by rw [sort_len, List.length_take, List.length_drop]; omega
      have hPl : (l.take a).length = a := by rw [List.length_take]; omega
      refine loop_fam EB3_ok mixed (σ := List V × List V) (fun p => sortV ((l.drop a).take (i - a)) = p.1 ++ p.2 ∧ ∀ y ∈ p.2, compareV x y < 0) (fun p => p.1.length) (sortV ((l.drop a).take (i - a)), []) ⟨by simp, by simp⟩ 1 0 [0, 1, 2, 3, 8]
        (fun p => [(9, .int .i64 ((a + p.1.length : Nat) : Int))]) [] (fun p => [(0, .arr 34 3 n (vF (l.take a ++ ((p.1 ++ x :: p.2) ++ l.drop (i + 1)))))]) (fun _ => []) ?_ ?_ ?_ ?_
      · rfl
      · rfl
      · refine Wk.mk' rfl rfl trivial ?_ ?_
        repeat' (refine BR.mk (fun _ => ?_) (fun _ => ?_))
        any_goals first | exact trivial | exact Wv.any _ | (refine Wv.int ?_; with_reducible rfl) | (refine Wv.str ?_; with_reducible rfl) | (refine Wv.bool ?_; with_reducible rfl) | refine Wv.int ?_ | refine Wv.str ?_ | refine Wv.bool ?_ | exact Wv.same rfl
        · show (i : Int) = ((a + (sortV ((l.drop a).take (i - a))).length : Nat) : Int)
          rw [hSl]; omega
        · refine ⟨Nat.le_of_ble_eq_true rfl, .inl ⟨rfl, _, rfl, arr_same (fun j hj => ?_) fun j _ => rfl⟩⟩
          rw [seg_at hx]
          show _ = vF (l.take a ++ ((sortV ((l.drop a).take (i - a)) ++ x :: []) ++ l.drop (i + 1))) j
          rw [List.append_assoc]; rfl
      · rintro ⟨A, B⟩ ⟨hS, hB⟩
        simp only at hS hB
        have hAB : A.length + B.length = i - a := by rw [← hSl, hS, List.length_append]
        have hLn : (l.take a ++ ((A ++ x :: B) ++ l.drop (i + 1))).length = n := by
          simp only [List.length_append, List.length_cons, List.length_drop, hPl]; omega
        have fin : (A = [] ∨ ∀ y ∈ A.getLast?, ¬ compareV x y < 0) → l.take a ++ ((A ++ x :: B) ++ l.drop (i + 1)) = segSort l a (i + 1) := fun h => by
          refine (seg_step (by omega) hx hS hB ?_ hr).symm
          rcases h with rfl | h
          · simp
          · exact h
        rcases A.eq_nil_or_concat with rfl | ⟨A', y, eA⟩
        · have k0 : decide (((a + ([] : List V).length : Nat) : Int) > (a : Int)) = false := by simp
          repeat' (refine BR.mk (fun h => ?_) (fun h => ?_) <;> first | contradiction | exact absurd (k0.symm.trans h) (by decide) | skip)
          · exact (show commutes _ _ = true by kernel_rfl)
          · have fin := fin (.inl rfl)
            refine Again.fam (i + 1) ⟨by omega, .inl (by omega)⟩ (by omega) rfl rfl rfl rfl trivial ?_ ?_
            · repeat' (refine BR.mk (fun _ => ?_) (fun _ => ?_))
              any_goals first | exact trivial | exact Wv.any _ | (refine Wv.int ?_; with_reducible rfl) | (refine Wv.str ?_; with_reducible rfl) | (refine Wv.bool ?_; with_reducible rfl) | refine Wv.int ?_ | refine Wv.str ?_ | refine Wv.bool ?_ | exact Wv.same rfl
              rw [wrap_id (by unfold i64; omega)]; rfl
            · repeat' (refine BR.mk (fun _ => ?_) (fun _ => ?_))
              any_goals first | exact trivial | exact Wv.any _ | (refine Wv.int ?_; with_reducible rfl) | (refine Wv.str ?_; with_reducible rfl) | (refine Wv.bool ?_; with_reducible rfl) | refine Wv.int ?_ | refine Wv.str ?_ | refine Wv.bool ?_ | exact Wv.same rfl
              refine ⟨Nat.le_of_ble_eq_true rfl, .inl ⟨rfl, _, rfl, arr_same (fun j hj => ?_) fun j _ => rfl⟩⟩
              rw [← fin]
        · rw [List.concat_eq_append] at eA
          subst eA
          have hJ : (A' ++ [y]).length = A'.length + 1 := by simp
          have wJ : IntKind.i64.wrap (((a + (A' ++ [y]).length : Nat) : Int) - 1) = ((a + A'.length : Nat) : Int) := by rw [wrap_id (by unfold i64; omega)]; omega
          have k0 : decide (((a + (A' ++ [y]).length : Nat) : Int) > (a : Int)) = true := by simp only [decide_eq_true_eq]; omega
          have q1 : (l.take a ++ (((A' ++ [y]) ++ x :: B) ++ l.drop (i + 1))).getD (0 + (((a + (A' ++ [y]).length : Nat) : Int)).toNat) null = x := by
            have := at_last (l.take a ++ (A' ++ [y])) (B ++ l.drop (i + 1)) x
            have hQ : (l.take a ++ (A' ++ [y])).length = a + (A' ++ [y]).length := by rw [List.length_append, hPl]
            rw [show 0 + (((a + (A' ++ [y]).length : Nat) : Int)).toNat = (l.take a ++ (A' ++ [y])).length from by rw [hQ]; omega]
            simpa only [List.append_assoc, List.cons_append] using this
          have q2 : (l.take a ++ (((A' ++ [y]) ++ x :: B) ++ l.drop (i + 1))).getD (0 + (IntKind.i64.wrap (((a + (A' ++ [y]).length : Nat) : Int) - 1)).toNat) null = y := by
            have := at_last (l.take a ++ A') (x :: (B ++ l.drop (i + 1))) y
            have hQ : (l.take a ++ A').length = a + A'.length := by rw [List.length_append, hPl]
            rw [wJ, show 0 + (((a + A'.length : Nat) : Int)).toNat = (l.take a ++ A').length from by rw [hQ]; omega]
            simpa only [List.append_assoc, List.cons_append, List.nil_append] using this
          by_cases hc : compareV x y < 0
          · have k1 : decide (compareV ((l.take a ++ (((A' ++ [y]) ++ x :: B) ++ l.drop (i + 1))).getD (0 + (((a + (A' ++ [y]).length : Nat) : Int)).toNat) null) ((l.take a ++ (((A' ++ [y]) ++ x :: B) ++ l.drop (i + 1))).getD (0 + (IntKind.i64.wrap (((a + (A' ++ [y]).length : Nat) : Int) - 1)).toNat) null) < 0) = true := by
              rw [q1, q2]; exact decide_eq_true hc
            repeat' (refine BR.mk (fun h => ?_) (fun h => ?_) <;> first | contradiction | exact absurd (k0.symm.trans h) (by decide) | exact absurd (k1.symm.trans h) (by decide) | skip)
            all_goals try exact (show commutes _ _ = true by kernel_rfl)
            all_goals try (dsimp only; first | exact ⟨⟨by omega, by omega⟩, rfl⟩ | exact ⟨by omega, rfl⟩ | (rw [wJ]; first | exact ⟨⟨by omega, by omega⟩, rfl⟩ | exact ⟨by omega, rfl⟩))
            refine Again.fam (A', y :: B) ⟨by simpa using hS, fun z hz => ?_⟩ (by simp) rfl rfl rfl rfl trivial ?_ ?_
            · rcases List.mem_cons.1 hz with rfl | hz
              · exact hc
              · exact hB z hz
            · repeat' (refine BR.mk (fun _ => ?_) (fun _ => ?_))
              any_goals first | exact trivial | exact Wv.any _ | (refine Wv.int ?_; with_reducible rfl) | (refine Wv.str ?_; with_reducible rfl) | (refine Wv.bool ?_; with_reducible rfl) | refine Wv.int ?_ | refine Wv.str ?_ | refine Wv.bool ?_ | exact Wv.same rfl
              exact wJ
            · repeat' (refine BR.mk (fun _ => ?_) (fun _ => ?_))
              any_goals first | exact trivial | exact Wv.any _ | (refine Wv.int ?_; with_reducible rfl) | (refine Wv.str ?_; with_reducible rfl) | (refine Wv.bool ?_; with_reducible rfl) | refine Wv.int ?_ | refine Wv.str ?_ | refine Wv.bool ?_ | exact Wv.same rfl
              refine ⟨Nat.le_of_ble_eq_true rfl, .inl ⟨rfl, _, rfl, arr_same (fun j hj => ?_) fun j _ => rfl⟩⟩
              have hQ : (l.take a ++ A').length = a + A'.length := by rw [List.length_append, hPl]
              have hs := swap_vF (l.take a ++ A') (B ++ l.drop (i + 1)) x y j
              have e1 : (l.take a ++ A') ++ y :: x :: (B ++ l.drop (i + 1)) = l.take a ++ (((A' ++ [y]) ++ x :: B) ++ l.drop (i + 1)) := by simp
              have e2 : (l.take a ++ A') ++ x :: y :: (B ++ l.drop (i + 1)) = l.take a ++ ((A' ++ x :: y :: B) ++ l.drop (i + 1)) := by simp
              rw [e1, e2, hQ] at hs
              refine Eq.trans ?_ hs
              show upd (upd (vF (l.take a ++ (((A' ++ [y]) ++ x :: B) ++ l.drop (i + 1)))) (0 + (((a + (A' ++ [y]).length : Nat) : Int)).toNat) (encV ((l.take a ++ (((A' ++ [y]) ++ x :: B) ++ l.drop (i + 1))).getD (0 + (IntKind.i64.wrap (((a + (A' ++ [y]).length : Nat) : Int) - 1)).toNat) null))) (0 + (IntKind.i64.wrap (((a + (A' ++ [y]).length : Nat) : Int) - 1)).toNat) (encV ((l.take a ++ (((A' ++ [y]) ++ x :: B) ++ l.drop (i + 1))).getD (0 + (((a + (A' ++ [y]).length : Nat) : Int)).toNat) null)) j = _
              rw [q1, q2, wJ, show 0 + (((a + A'.length : Nat) : Int)).toNat = a + A'.length from by omega, show 0 + (((a + (A' ++ [y]).length : Nat) : Int)).toNat = a + A'.length + 1 from by omega]
          · have k1 : decide (compareV ((l.take a ++ (((A' ++ [y]) ++ x :: B) ++ l.drop (i + 1))).getD (0 + (((a + (A' ++ [y]).length : Nat) : Int)).toNat) null) ((l.take a ++ (((A' ++ [y]) ++ x :: B) ++ l.drop (i + 1))).getD (0 + (IntKind.i64.wrap (((a + (A' ++ [y]).length : Nat) : Int) - 1)).toNat) null) < 0) = false := by
              rw [q1, q2]; exact decide_eq_false hc
            repeat' (refine BR.mk (fun h => ?_) (fun h => ?_) <;> first | contradiction | exact absurd (k0.symm.trans h) (by decide) | exact absurd (k1.symm.trans h) (by decide) | skip)
            all_goals try exact (show commutes _ _ = true by kernel_rfl)
            all_goals try (dsimp only; first | exact ⟨⟨by omega, by omega⟩, rfl⟩ | exact ⟨by omega, rfl⟩ | (rw [wJ]; first | exact ⟨⟨by omega, by omega⟩, rfl⟩ | exact ⟨by omega, rfl⟩))
            · have fin := fin (.inr (by simpa using hc))
              refine Again.fam (i + 1) ⟨by omega, .inl (by omega)⟩ (by omega) rfl rfl rfl rfl trivial ?_ ?_
              · repeat' (refine BR.mk (fun _ => ?_) (fun _ => ?_))
                any_goals first | exact trivial | exact Wv.any _ | (refine Wv.int ?_; with_reducible rfl) | (refine Wv.str ?_; with_reducible rfl) | (refine Wv.bool ?_; with_reducible rfl) | refine Wv.int ?_ | refine Wv.str ?_ | refine Wv.bool ?_ | exact Wv.same rfl
                rw [wrap_id (by unfold i64; omega)]; rfl
              · repeat' (refine BR.mk (fun _ => ?_) (fun _ => ?_))
                any_goals first | exact trivial | exact Wv.any _ | (refine Wv.int ?_; with_reducible rfl) | (refine Wv.str ?_; with_reducible rfl) | (refine Wv.bool ?_; with_reducible rfl) | refine Wv.int ?_ | refine Wv.str ?_ | refine Wv.bool ?_ | exact Wv.same rfl
                refine ⟨Nat.le_of_ble_eq_true rfl, .inl ⟨rfl, _, rfl, arr_same (fun j hj => ?_) fun j _ => rfl⟩⟩
                rw [← fin]
    · simp only [decide_eq_false_iff_not] at h
      have e : segSort l a i = segSort l a b := by
        by_cases h2 : i = b
        · rw [h2]
        · rw [show i = a + 1 from by omega, seg_one, show b = a from by omega, seg_none]
      have hb := hseg b hab hbn
      refine Go.Ab.Left.mk (Nat.le_of_ble_eq_true rfl) ⟨[], fun _ _ => rfl, Wv.same rfl, Wk.mk' rfl rfl trivial trivial ?_⟩
      repeat' (refine BR.mk (fun _ => ?_) (fun _ => ?_))
      any_goals first | exact trivial | exact Wv.any _ | (refine Wv.int ?_; with_reducible rfl) | (refine Wv.str ?_; with_reducible rfl) | (refine Wv.bool ?_; with_reducible rfl) | refine Wv.int ?_ | refine Wv.str ?_ | refine Wv.bool ?_ | exact Wv.same rfl
      refine ⟨Nat.le_of_ble_eq_true rfl, .inl ⟨rfl, _, rfl, ?_⟩⟩
      rw [hb, ← e]
      exact arr_same (fun j _ => rfl) fun j _ => rfl

noncomputable def h_ins : List AV → St → Res
  | [.hs i 0 n 3 none, .int .i64 a, .int .i64 b, .clo c [] []], m => match m.h i with
    | some (.arr T 3 n' f) => @Res.need (T = 34 ∧ n' = n ∧ c = 53 ∧ (0 ≤ a ∧ a ≤ b ∧ b ≤ n) ∧ n ≤ 1000000000 ∧ (∀ q, q < n → isV (f q) = true) ∧ ∀ x ∈ lO n f, right x = true) (Classical.propDecidable _) (.tup [])
        (m.within (St.small [.arr 34 3 n f] []) (rowOf (segSort (lO n f) a.toNat b.toNat)) [i] [])
    | _ => .fail
  | _, _ => .fail
theorem ren_V {ρ θ : Nat → Nat} {x : AV} (h : isV x = true) : ren ρ θ x = x := by
  rw [isV_eq h]; rfl
theorem under_V {nx nk : Nat} {x : AV} (h : isV x = true) : under nx nk x = true := by
  rw [isV_eq h]; rfl
theorem fits_V {ρ θ : Nat → Nat} {n : Nat} {f : Nat → AV} (hf : ∀ q, q < n → isV (f q) = true) : leB (.arr 34 3 n f) (renB ρ θ (.arr 34 3 n f)) :=
  leB.arr (Nat.le_refl _) fun j hj => (ren_V (hf j hj)).symm
theorem h_ins_ok (xs : List AV) (m : St) : HRok Tryz.prog GV 216 xs m (h_ins xs m) := by
  unfold h_ins
  split
  · rename_i i n a b c
    split
    · rename_i T n' f hi
      rintro ⟨rfl, rfl, rfl, ⟨h1, h2, h3⟩, hn, hf, hr⟩
      obtain ⟨x, rfl⟩ := Int.eq_ofNat_of_zero_le h1
      obtain ⟨y, rfl⟩ := Int.eq_ofNat_of_zero_le (Int.le_trans h1 h2)
      exact hc_small (hc_ins n' f x y (by omega) (by omega) hn hf hr) [i] [] (Nat.le_of_ble_eq_true rfl) (Nat.le_refl _) rfl (by simp) (by simp) ⟨⟨fun j hj => under_V (hf j hj), _, hi, fits_V hf⟩, trivial⟩ trivial
    · trivial
  · trivial
noncomputable def EB4 : Env := EB3.addH 216 h_ins
theorem EB4_ok : EnvOk Tryz.prog EB4 := Env.addH_ok EB3_ok (by kernel_rfl) h_ins_ok

/-- the part from a to b -/
def seg (g : Nat → V) (a b : Nat) : List V := (List.range (b - a)).map fun i => g (a + i)
theorem seg_length (g : Nat → V) (a b : Nat) : (seg g a b).length = b - a := by simp [seg]
theorem seg_get {g : Nat → V} {a b i : Nat} (h : i < b - a) : (seg g a b)[i]? = some (g (a + i)) := by
  unfold seg
  rw [List.getElem?_map, List.getElem?_range h]; rfl
theorem seg_congr {g h : Nat → V} {a b : Nat} (e : ∀ q, a ≤ q → q < b → g q = h q) : seg g a b = seg h a b := by
  unfold seg
  refine List.map_congr_left fun i hi => ?_
  have := List.mem_range.1 hi
  exact e _ (by omega) (by omega)
theorem seg_shift {g h : Nat → V} {a b c d : Nat} (e1 : b - a = d - c) (e : ∀ i, i < b - a → g (a + i) = h (c + i)) : seg g a b = seg h c d := by
  unfold seg
  rw [← e1]
  exact List.map_congr_left fun i hi => e i (List.mem_range.1 hi)
theorem seg_app {g : Nat → V} {a b c : Nat} (h1 : a ≤ b) (h2 : b ≤ c) : seg g a c = seg g a b ++ seg g b c := by
  unfold seg
  rw [show c - a = (b - a) + (c - b) from by omega, List.range_add, List.map_append, List.map_map]
  congr 1
  refine List.map_congr_left fun i _ => ?_
  show g (a + (b - a + i)) = g (b + i)
  rw [show a + (b - a + i) = b + i from by omega]
theorem seg_mem {g : Nat → V} {a b : Nat} {x : V} : x ∈ seg g a b ↔ ∃ q, a ≤ q ∧ q < b ∧ g q = x := by
  unfold seg
  simp only [List.mem_map, List.mem_range]
  constructor
  · rintro ⟨i, h1, h2⟩; exact ⟨a + i, by omega, by omega, h2⟩
  · rintro ⟨q, h1, h2, h3⟩; exact ⟨q - a, by omega, by rw [show a + (q - a) = q from by omega]; exact h3⟩
/-- sorted from a to b -/
def SS (g : Nat → V) (a b : Nat) : Prop := ∀ i j, a ≤ i → i < j → j < b → compareV (g i) (g j) ≤ 0
theorem SS.srt {g : Nat → V} {a b : Nat} (h : SS g a b) : Srt (seg g a b) := by
  refine List.pairwise_iff_getElem.2 fun i j hi hj hij => ?_
  rw [seg_length] at hi hj
  have e1 := (List.getElem?_eq_some_iff.1 (seg_get (g := g) hi)).2
  have e2 := (List.getElem?_eq_some_iff.1 (seg_get (g := g) hj)).2
  rw [e1, e2]
  exact h _ _ (by omega) (by omega) (by omega)
theorem SS.le {g : Nat → V} {a b i j : Nat} (h : SS g a b) (h1 : a ≤ i) (h2 : i ≤ j) (h3 : j < b) : compareV (g i) (g j) ≤ 0 := by
  by_cases e : i = j
  · subst e
    have := acv_anti (g i) (g i)
    omega
  · exact h i j h1 (by omega) h3
theorem SS.mono {g : Nat → V} {a b c d : Nat} (h : SS g a b) (h1 : a ≤ c) (h2 : d ≤ b) : SS g c d := fun i j a1 a2 a3 => h i j (by omega) a2 (by omega)
theorem SS.congr {g h : Nat → V} {a b : Nat} (hs : SS g a b) (e : ∀ q, a ≤ q → q < b → h q = g q) : SS h a b := fun i j a1 a2 a3 => by
  rw [e i a1 (by omega), e j (by omega) a3]; exact hs i j a1 a2 a3
theorem SS.few {g : Nat → V} {a b : Nat} (h : b ≤ a + 1) : SS g a b := fun i j a1 a2 a3 => by omega
/-- the part from a to b sorted -/
def srtG (g : Nat → V) (a b : Nat) (q : Nat) : V := if a ≤ q ∧ q < b then (sortV (seg g a b)).getD (q - a) null else g q
theorem srtG_out {g : Nat → V} {a b q : Nat} (h : ¬(a ≤ q ∧ q < b)) : srtG g a b q = g q := if_neg h
theorem srtG_seg (g : Nat → V) (a b : Nat) : seg (srtG g a b) a b = sortV (seg g a b) := by
  refine List.ext_getElem? fun i => ?_
  by_cases h : i < b - a
  · rw [seg_get h]
    have hl : i < (sortV (seg g a b)).length := by rw [sort_len, seg_length]; exact h
    unfold srtG
    rw [if_pos ⟨by omega, by omega⟩, show a + i - a = i from by omega, List.getD_eq_getElem?_getD, List.getElem?_eq_getElem hl]
    rfl
  · rw [List.getElem?_eq_none (by rw [seg_length]; omega), List.getElem?_eq_none (by rw [sort_len, seg_length]; omega)]
theorem srtG_SS (g : Nat → V) (a b : Nat) : SS (srtG g a b) a b := by
  have h := sort_srt (seg g a b)
  rw [← srtG_seg] at h
  intro i j a1 a2 a3
  have hi : i - a < (seg (srtG g a b) a b).length := by rw [seg_length]; omega
  have hj : j - a < (seg (srtG g a b) a b).length := by rw [seg_length]; omega
  have := List.pairwise_iff_getElem.1 h (i - a) (j - a) hi hj (by omega)
  have e1 := (List.getElem?_eq_some_iff.1 (seg_get (g := srtG g a b) (a := a) (b := b) (i := i - a) (by omega))).2
  have e2 := (List.getElem?_eq_some_iff.1 (seg_get (g := srtG g a b) (a := a) (b := b) (i := j - a) (by omega))).2
  rw [e1, e2, show a + (i - a) = i from by omega, show a + (j - a) = j from by omega] at this
  exact this
/-- the same values from a to b, in another order; else all as it was -/
def PG (g h : Nat → V) (a b : Nat) : Prop := (∀ q, ¬(a ≤ q ∧ q < b) → h q = g q) ∧ (seg h a b).Perm (seg g a b)
theorem PG.refl (g : Nat → V) (a b : Nat) : PG g g a b := ⟨fun _ _ => rfl, .refl _⟩
theorem PG.trans {g h k : Nat → V} {a b : Nat} (h1 : PG g h a b) (h2 : PG h k a b) : PG g k a b := ⟨fun q hq => (h2.1 q hq).trans (h1.1 q hq), h2.2.trans h1.2⟩
theorem PG.srt (g : Nat → V) (a b : Nat) : PG g (srtG g a b) a b := ⟨fun q h => srtG_out h, by rw [srtG_seg]; exact sort_perm _⟩
theorem PG.mono {g h : Nat → V} {a b c d : Nat} (p : PG g h a b) (h1 : c ≤ a) (h2 : a ≤ b) (h3 : b ≤ d) : PG g h c d := by
  refine ⟨fun q hq => p.1 q (by omega), ?_⟩
  rw [seg_app (g := h) h1 (Nat.le_trans h2 h3), seg_app (g := h) h2 h3, seg_app (g := g) h1 (Nat.le_trans h2 h3), seg_app (g := g) h2 h3]
  rw [seg_congr (g := h) (h := g) (a := c) (b := a) fun q _ _ => p.1 q (by omega), seg_congr (g := h) (h := g) (a := b) (b := d) fun q _ _ => p.1 q (by omega)]
  exact .append (.refl _) (p.2.append (.refl _))
theorem PG.at {g h : Nat → V} {a b : Nat} (p : PG g h a b) {q : Nat} (h1 : a ≤ q) (h2 : q < b) : ∃ r, a ≤ r ∧ r < b ∧ g r = h q :=
  seg_mem.1 (p.2.mem_iff.1 (seg_mem.2 ⟨q, h1, h2, rfl⟩))
theorem PG.rgt {g h : Nat → V} {a b n : Nat} (p : PG g h a b) (hb : b ≤ n) (hr : ∀ q, q < n → right (g q) = true) : ∀ q, q < n → right (h q) = true := fun q hq => by
  by_cases e : a ≤ q ∧ q < b
  · obtain ⟨r, h1, h2, h3⟩ := p.at e.1 e.2
    rw [← h3]; exact hr r (by omega)
  · rw [p.1 q e]; exact hr q hq
theorem PG.eq {g h : Nat → V} {a b : Nat} (p : PG g h a b) (hs : SS h a b) (hr : ∀ q, a ≤ q → q < b → right (g q) = true) (q : Nat) : h q = srtG g a b q := by
  unfold srtG
  by_cases e : a ≤ q ∧ q < b
  · rw [if_pos e, sort_eq hs.srt p.2 fun x hx => by obtain ⟨r, h1, h2, h3⟩ := seg_mem.1 hx; rw [← h3]; exact hr r h1 h2]
    rw [List.getD_eq_getElem?_getD, seg_get (by omega), show a + (q - a) = q from by omega]; rfl
  · rw [if_neg e]; exact p.1 q e
theorem srtG_congr {g h : Nat → V} {a b : Nat} (e : ∀ q, q < b → g q = h q) (q : Nat) (hq : q < b) : srtG g a b q = srtG h a b q := by
  unfold srtG
  rw [seg_congr (g := g) (h := h) fun q _ h => e q h, e q hq]
/-- n places from a on and n places from b on, exchanged -/
def swpG (g : Nat → V) (a b n : Nat) (q : Nat) : V := if a ≤ q ∧ q < a + n then g (q - a + b) else if b ≤ q ∧ q < b + n then g (q - b + a) else g q
/-- the parts from a to m and from m to b, exchanged -/
def rotG (g : Nat → V) (a m b : Nat) (q : Nat) : V := if a ≤ q ∧ q < a + (b - m) then g (q - a + m) else if a + (b - m) ≤ q ∧ q < b then g (q - (b - m)) else g q
theorem rotG_seg {g : Nat → V} {a m b : Nat} (h1 : a ≤ m) (h2 : m ≤ b) : seg (rotG g a m b) a b = seg g m b ++ seg g a m := by
  rw [seg_app (g := rotG g a m b) (a := a) (b := a + (b - m)) (c := b) (by omega) (by omega)]
  congr 1
  · refine seg_shift (by omega) fun i hi => ?_
    unfold rotG
    rw [if_pos ⟨by omega, by omega⟩, show a + i - a + m = m + i from by omega]
  · refine seg_shift (by omega) fun i hi => ?_
    unfold rotG
    rw [if_neg (by omega), if_pos ⟨by omega, by omega⟩, show a + (b - m) + i - (b - m) = a + i from by omega]
theorem PG.rot (g : Nat → V) {a m b : Nat} (h1 : a ≤ m) (h2 : m ≤ b) : PG g (rotG g a m b) a b := by
  refine ⟨fun q hq => ?_, ?_⟩
  · unfold rotG
    rw [if_neg (by omega), if_neg (by omega)]
  · rw [rotG_seg h1 h2, seg_app (g := g) h1 h2]
    exact List.perm_append_comm
theorem rotG_none (g : Nat → V) (a b : Nat) (q : Nat) : rotG g a a b q = g q := by
  unfold rotG
  repeat' split
  · rw [show q - a + a = q from by omega]
  · omega
  · rfl
theorem rotG_none' (g : Nat → V) (a b : Nat) (h : a ≤ b) (q : Nat) : rotG g a b b q = g q := by
  unfold rotG
  repeat' split
  · omega
  · rw [show q - (b - b) = q from by omega]
  · rfl
/-- the left part is longer: a step of the rotation -/
theorem rot_left (g : Nat → V) (m i j : Nat) (h1 : i ≤ m) (h : j < i) (q : Nat) : rotG (swpG g (m - i) m j) (m - (i - j)) m (m + j) q = rotG g (m - i) m (m + j) q := by
  unfold rotG swpG
  repeat' split
  all_goals first | omega | rfl | (congr 1; done) | (congr 1; omega)
theorem rot_right (g : Nat → V) (m i j : Nat) (h1 : i ≤ m) (h : i < j) (q : Nat) : rotG (swpG g (m - i) (m + j - i) i) (m - i) m (m + (j - i)) q = rotG g (m - i) m (m + j) q := by
  unfold rotG swpG
  repeat' split
  all_goals first | omega | rfl | (congr 1; done) | (congr 1; omega)
theorem rot_last (g : Nat → V) (m i : Nat) (h1 : i ≤ m) (q : Nat) : swpG g (m - i) m i q = rotG g (m - i) m (m + i) q := by
  unfold rotG swpG
  repeat' split
  all_goals first | omega | rfl | (congr 1; done) | (congr 1; omega)
/-- two places exchanged -/
def swG (g : Nat → V) (i j : Nat) (q : Nat) : V := if q = i then g j else if q = j then g i else g q
theorem swp_step (g : Nat → V) (a b i : Nat) (h : a + i < b) (q : Nat) : swG (swpG g a b i) (a + i) (b + i) q = swpG g a b (i + 1) q := by
  unfold swG swpG
  repeat' split
  all_goals first | omega | rfl | (congr 1; done) | (congr 1; omega)
theorem rot_up (g : Nat → V) (a k : Nat) (h : a ≤ k) (q : Nat) : swG (rotG g a (a + 1) (k + 1)) k (k + 1) q = rotG g a (a + 1) (k + 1 + 1) q := by
  unfold swG rotG
  repeat' split
  all_goals first | omega | rfl | (congr 1; done) | (congr 1; omega)
theorem rot_down (g : Nat → V) (k m : Nat) (h0 : 0 < k) (h : k ≤ m) (q : Nat) : swG (rotG g k m (m + 1)) k (k - 1) q = rotG g (k - 1) m (m + 1) q := by
  unfold swG rotG
  repeat' split
  all_goals first | omega | rfl | (congr 1; done) | (congr 1; omega)
/-- one value put into what is sorted behind it -/
theorem one_left {g : Nat → V} {a i b : Nat} (h1 : a + 1 ≤ i) (h2 : i ≤ b) (hs : SS g (a + 1) b) (hl : a + 1 < i → compareV (g (i - 1)) (g a) < 0) (hg : i < b → ¬ compareV (g i) (g a) < 0) : SS (rotG g a (a + 1) i) a b := by
  have c1 : ∀ q, a + 1 ≤ q → q < i → compareV (g q) (g a) ≤ 0 := fun q a1 a2 => cv_le_trans (hs.le a1 (by omega : q ≤ i - 1) (by omega)) (by have := hl (by omega); omega)
  have c2 : ∀ q, i ≤ q → q < b → compareV (g a) (g q) ≤ 0 := fun q a1 a2 => cv_le_trans (by have := hg (by omega); have := acv_anti (g i) (g a); omega) (hs.le h1 a1 a2)
  intro x y x1 x2 x3
  unfold rotG
  repeat' split
  all_goals try omega
  · exact hs _ _ (by omega) (by omega) (by omega)
  · rw [show y - (i - (a + 1)) = a from by omega]; exact c1 _ (by omega) (by omega)
  · exact hs _ _ (by omega) (by omega) (by omega)
  · rw [show x - (i - (a + 1)) = a from by omega]; exact c2 _ (by omega) (by omega)
  · exact hs _ _ (by omega) (by omega) (by omega)
/-- one value put into what is sorted ahead of it -/
theorem one_right {g : Nat → V} {a i m : Nat} (h1 : a ≤ i) (h2 : i ≤ m) (hs : SS g a m) (hl : a < i → ¬ compareV (g m) (g (i - 1)) < 0) (hg : i < m → compareV (g m) (g i) < 0) : SS (rotG g i m (m + 1)) a (m + 1) := by
  have c1 : ∀ q, a ≤ q → q < i → compareV (g q) (g m) ≤ 0 := fun q a1 a2 => cv_le_trans (hs.le a1 (by omega : q ≤ i - 1) (by omega)) (by have := hl (by omega); have := acv_anti (g m) (g (i - 1)); omega)
  have c2 : ∀ q, i ≤ q → q < m → compareV (g m) (g q) ≤ 0 := fun q a1 a2 => cv_le_trans (by have := hg (by omega); omega) (hs.le h1 a1 a2)
  intro x y x1 x2 x3
  unfold rotG
  repeat' split
  all_goals try omega
  · rw [show x - i + m = m from by omega]; exact c2 _ (by omega) (by omega)
  · exact hs _ _ (by omega) (by omega) (by omega)
  · rw [show y - i + m = m from by omega]; exact c1 _ (by omega) (by omega)
  · exact hs _ _ (by omega) (by omega) (by omega)
  · exact hs _ _ (by omega) (by omega) (by omega)
/-- behind the rotation: what is on the left is at most what is on the right; both sides are two sorted parts -/
structure Cut (g : Nat → V) (a m b mid s e : Nat) : Prop where
  aS : a ≤ s
  sm : s ≤ m
  me : m ≤ e
  eb : e ≤ b
  smid : s ≤ mid
  mide : mid ≤ e
  sum : s + e = mid + m
  lo : a < s → e < b → ¬ compareV (g e) (g (s - 1)) < 0
  hi : s < m → m < e → compareV (g (e - 1)) (g s) < 0
theorem Cut.le {g : Nat → V} {a m b mid s e : Nat} (c : Cut g a m b mid s e) (h1 : SS g a m) (h2 : SS g m b) {i j : Nat} (hi : a ≤ i) (hi2 : i < mid) (hj : mid ≤ j) (hj2 : j < b) : compareV (rotG g s m e i) (rotG g s m e j) ≤ 0 := by
  obtain ⟨c1, c2, c3, c4, c5, c6, c7, c8, c9⟩ := c
  unfold rotG
  repeat' split
  all_goals try omega
  · -- i of the second half, j of the first
    have := c9 (by omega) (by omega)
    exact cv_le_trans (h2.le (by omega) (by omega : i - s + m ≤ e - 1) (by omega)) (cv_le_trans (b := g s) (by omega) (h1.le (by omega) (by omega) (by omega)))
  · exact h2.le (by omega) (by omega) hj2
  · exact h1.le hi (by omega) (by omega)
  · have := c8 (by omega) (by omega)
    have a3 := acv_anti (g e) (g (s - 1))
    exact cv_le_trans (h1.le hi (by omega : i ≤ s - 1) (by omega)) (cv_le_trans (b := g e) (by omega) (h2.le (by omega) (by omega) hj2))
theorem Cut.ss_l {g : Nat → V} {a m b mid s e : Nat} (c : Cut g a m b mid s e) (h1 : SS g a m) (h2 : SS g m b) : SS (rotG g s m e) a s ∧ SS (rotG g s m e) s mid ∧ SS (rotG g s m e) mid e ∧ SS (rotG g s m e) e b := by
  obtain ⟨c1, c2, c3, c4, c5, c6, c7, c8, c9⟩ := c
  refine ⟨fun i j a1 a2 a3 => ?_, fun i j a1 a2 a3 => ?_, fun i j a1 a2 a3 => ?_, fun i j a1 a2 a3 => ?_⟩
  all_goals
    unfold rotG
    repeat' split
    all_goals first | omega | exact h1 _ _ (by omega) (by omega) (by omega) | exact h2 _ _ (by omega) (by omega) (by omega)
theorem Cut.done {g g2 g3 : Nat → V} {a m b mid s e : Nat} (c : Cut g a m b mid s e) (h1 : SS g a m) (h2 : SS g m b) (p2 : PG (rotG g s m e) g2 a mid) (s2 : SS g2 a mid) (p3 : PG g2 g3 mid b) (s3 : SS g3 mid b)
    (hr : ∀ q, a ≤ q → q < b → right (g q) = true) (q : Nat) : g3 q = srtG g a b q := by
  have hc := c
  obtain ⟨c1, c2, c3, c4, c5, c6, c7, c8, c9⟩ := c
  have hm1 : a ≤ mid := by omega
  have hm2 : mid ≤ b := by omega
  refine PG.eq ((PG.rot g c2 c3).mono c1 (by omega) c4 |>.trans ((p2.mono (Nat.le_refl _) hm1 hm2).trans (p3.mono hm1 hm2 (Nat.le_refl _)))) (fun i j i1 i2 i3 => ?_) hr q
  by_cases k1 : mid ≤ i
  · exact s3 i j k1 i2 i3
  · by_cases k2 : mid ≤ j
    · rw [p3.1 i (by omega)]
      obtain ⟨x, x1, x2, x3⟩ := p2.at i1 (by omega : i < mid)
      obtain ⟨y, y1, y2, y3⟩ := p3.at k2 i3
      rw [← x3, ← y3, p2.1 y (by omega)]
      exact hc.le h1 h2 x1 x2 y1 y2
    · rw [p3.1 i (by omega), p3.1 j (by omega)]
      exact s2 i j i1 i2 (by omega)
theorem dvd_same {c p a : Nat} (h1 : c ∣ p) (h2 : c ∣ a) (h3 : p ≤ a) (h4 : a < p + c) : p = a := by
  obtain ⟨x, rfl⟩ := h1
  obtain ⟨y, rfl⟩ := h2
  have hy : y < x + 1 := by
    refine Nat.lt_of_mul_lt_mul_left (a := c) ?_
    rw [Nat.mul_add, Nat.mul_one]; exact h4
  by_cases hc : c = 0
  · subst hc; simp
  · have hx : x ≤ y := Nat.le_of_mul_le_mul_left h3 (by omega)
    rw [show x = y from by omega]
theorem dvd_next {c p a : Nat} (h1 : c ∣ p) (h2 : c ∣ a) (h3 : a < p) : a + c ≤ p := by
  obtain ⟨x, rfl⟩ := h1
  obtain ⟨y, rfl⟩ := h2
  have hy : y < x := Nat.lt_of_mul_lt_mul_left h3
  have := Nat.mul_le_mul_left c (show y + 1 ≤ x from hy)
  rw [Nat.mul_add, Nat.mul_one] at this
  exact this
/-- whole blocks ahead of a are sorted -/
def Blks (h : Nat → V) (c a : Nat) : Prop := ∀ p, c ∣ p → p + c ≤ a → SS h p (p + c)
/-- all blocks from a on are sorted, the last one as far as it goes -/
def Rest (h : Nat → V) (c a n : Nat) : Prop := ∀ p, c ∣ p → a ≤ p → SS h p (min (p + c) n)
theorem Blks.none (h : Nat → V) (c : Nat) (hc : 0 < c) : Blks h c 0 := fun p _ hp => by omega
theorem Blks.step {h : Nat → V} {c a : Nat} (hc : 0 < c) (ha : c ∣ a) (hb : Blks h c a) : Blks (srtG h a (a + c)) c (a + c) := fun p hp h1 => by
  by_cases e : p + c ≤ a
  · exact (hb p hp e).congr fun q q1 q2 => srtG_out (by omega)
  · have := dvd_same hp ha (by omega) (by omega)
    subst this
    exact srtG_SS h p (p + c)
theorem Blks.last {h : Nat → V} {c a n : Nat} (hc : 0 < c) (ha : c ∣ a) (hb : Blks h c a) (h1 : a ≤ n) (h2 : n < a + c) {h' : Nat → V} (hs : SS h' a n) (he : ∀ q, q < a → h' q = h q) : Rest h' c 0 n := fun p hp _ => by
  by_cases e : p + c ≤ a
  · exact ((hb p hp e).congr fun q q1 q2 => he q (by omega)).mono (Nat.le_refl _) (Nat.min_le_left _ _)
  · by_cases e2 : p ≤ a
    · have := dvd_same hp ha e2 (by omega)
      subst this
      exact hs.mono (Nat.le_refl _) (Nat.min_le_right _ _)
    · have := dvd_next hp ha (by omega)
      exact SS.few (by omega)
theorem Rest.step {h : Nat → V} {c a n : Nat} (hb : Rest h c a n) : Rest (srtG h a (a + 2 * c)) c (a + 2 * c) n := fun p hp h1 =>
  (hb p hp (by omega)).congr fun q q1 q2 => srtG_out (by omega)
theorem Rest.done {h : Nat → V} {c n : Nat} (hb : Rest h c 0 n) (hn : n ≤ c) : SS h 0 n := (hb 0 ⟨0, rfl⟩ (Nat.le_refl _)).mono (Nat.le_refl _) (by omega)
theorem Rest.two {h : Nat → V} {c a n : Nat} (hb : Rest h c a n) (ha : 2 * c ∣ a) (hn : a + 2 * c ≤ n) : SS h a (a + c) ∧ SS h (a + c) (a + 2 * c) := by
  have hca : c ∣ a := Nat.dvd_trans ⟨2, Nat.mul_comm _ _⟩ ha
  exact ⟨(hb a hca (Nat.le_refl _)).mono (Nat.le_refl _) (by omega), (hb (a + c) (Nat.dvd_add hca (Nat.dvd_refl c)) (by omega)).mono (Nat.le_refl _) (by omega)⟩
theorem Rest.end2 {h : Nat → V} {c a n : Nat} (hb : Rest h c a n) (ha : 2 * c ∣ a) (hn : n < a + 2 * c) : SS h a (min (a + c) n) ∧ SS h (a + c) n := by
  have hca : c ∣ a := Nat.dvd_trans ⟨2, Nat.mul_comm _ _⟩ ha
  exact ⟨hb a hca (Nat.le_refl _), (hb (a + c) (Nat.dvd_add hca (Nat.dvd_refl c)) (by omega)).mono (Nat.le_refl _) (by omega)⟩

/-- each value once, where it comes first -/
def ddp (S : List V) : List V → List V
  | [] => []
  | v :: l => if v ∈ S then ddp S l else v :: ddp (v :: S) l
def live (l : List V) : List V := l.filter fun v => decide (v.k ≠ 0)
/-- what counts -/
def cntL (name : List UInt8) (d : Bool) (l : List V) : List V := if name = sStar then l else if d then ddp [] (live l) else live l
def okV' (v : V) : Prop := right v = true ∧ i64 v.n

/-! keys are no other value's -/
theorem byte_inj {x y : Int} (hx : 0 ≤ x ∧ x < 256) (hy : 0 ≤ y ∧ y < 256) (h : UInt8.ofNat x.toNat = UInt8.ofNat y.toNat) : x = y := by
  have := congrArg UInt8.toNat h
  simp only [UInt8.toNat_ofNat'] at this
  omega
theorem high_inj : ∀ (k : Nat) (n m : Int), highS n k = highS m k → n % 256 ^ k = m % 256 ^ k
  | 0, n, m, _ => by simp [Int.emod_one]
  | k + 1, n, m, h => by
    simp only [highS, List.cons.injEq] at h
    have h1 := high_inj k n m h.2
    have h2 := byte_inj (Int.emod_nonneg _ (by decide) |> fun a => ⟨a, Int.emod_lt_of_pos _ (by decide)⟩) (Int.emod_nonneg _ (by decide) |> fun a => ⟨a, Int.emod_lt_of_pos _ (by decide)⟩) h.1
    have e : ∀ z : Int, z % 256 ^ (k + 1) = z % 256 ^ k + 256 ^ k * ((z / 256 ^ k) % 256) := fun z => by
      have hp : (0 : Int) ≤ 256 ^ k := Int.le_of_lt (Int.pow_pos (by decide))
      have h1 := Int.emod_def z (256 ^ k * 256)
      have h2 := Int.emod_def z (256 ^ k)
      have h3 := Int.emod_def (z / 256 ^ k) 256
      rw [Int.pow_succ, h1, h2, h3, ← Int.ediv_ediv_of_nonneg hp, Int.mul_sub, Int.mul_assoc]
      omega
    rw [e, e, h1, h2]
theorem flip_inj {n m : Int} (hn : i64 n) (hm : i64 m) (h : flipV n = flipV m) : n = m := by
  unfold flipV at h
  have w : ∀ b : BitVec 64, IntKind.u64.wrap (b.toNat : Int) = (b.toNat : Int) := fun b => by
    have := b.isLt
    simp only [IntKind.wrap, IntKind.signed, IntKind.bits]
    simp
    omega
  rw [w, w] at h
  have h1 : BitVec.ofInt 64 (IntKind.u64.wrap n) ^^^ BitVec.ofInt 64 9223372036854775808 = BitVec.ofInt 64 (IntKind.u64.wrap m) ^^^ BitVec.ofInt 64 9223372036854775808 := BitVec.eq_of_toNat_eq (by omega)
  have h2 := congrArg (· ^^^ BitVec.ofInt 64 9223372036854775808) h1
  simp only [BitVec.xor_assoc, BitVec.xor_self, BitVec.xor_zero] at h2
  have h3 := congrArg BitVec.toInt h2
  rw [BitVec.toInt_ofInt, BitVec.toInt_ofInt] at h3
  simp only [IntKind.wrap, IntKind.signed, IntKind.bits, Int.bmod] at h3
  unfold i64 at hn hm
  simp at h3
  omega
theorem esc_inj : ∀ s t : List UInt8, escS s ++ [0, 0] = escS t ++ [0, 0] → s = t
  | [], [], _ => rfl
  | [], c :: t, h => by
    unfold escS at h
    split at h
    · simp [escS] at h
    · rename_i hc
      simp [escS] at h
      exact absurd h.1.symm hc
  | c :: s, [], h => by
    unfold escS at h
    split at h
    · simp [escS] at h
    · rename_i hc
      simp [escS] at h
      exact absurd h.1 hc
  | c :: s, e :: t, h => by
    unfold escS at h
    split at h <;> split at h
    · rename_i h1 h2
      simp only [List.cons_append, List.cons.injEq, true_and] at h
      rw [h1, h2, esc_inj s t h]
    · rename_i h1 h2
      simp only [List.cons_append, List.cons.injEq] at h
      exact absurd h.1.symm h2
    · rename_i h1 h2
      simp only [List.cons_append, List.cons.injEq] at h
      exact absurd h.1 h1
    · simp only [List.cons_append, List.cons.injEq] at h
      rw [h.1, esc_inj s t h.2]
theorem key_inj {v w : V} (hv : okV' v) (hw : okV' w) (h : keyV v = keyV w) : v = w := by
  have r1 := aright_cases hv.1
  have r2 := aright_cases hw.1
  obtain ⟨k, n, s⟩ := v
  obtain ⟨l, m, t⟩ := w
  have hn : i64 n := hv.2
  have hm : i64 m := hw.2
  simp only at r1 r2
  unfold keyV at h
  simp only at h
  rcases r1 with ⟨rfl, rfl, rfl⟩ | ⟨rfl, rfl⟩ | ⟨rfl, rfl⟩ | ⟨rfl, rfl⟩ <;> rcases r2 with ⟨rfl, rfl, rfl⟩ | ⟨rfl, rfl⟩ | ⟨rfl, rfl⟩ | ⟨rfl, rfl⟩ <;> simp at h
  · rfl
  · have := high_inj 8 _ _ h
    have u : ∀ x, 0 ≤ flipV x ∧ flipV x < 256 ^ 8 := fun x => by
      unfold flipV
      simp only [IntKind.wrap, IntKind.signed, IntKind.bits]
      simp
      omega
    have u1 := u n
    have u2 := u m
    rw [Int.emod_eq_of_lt u1.1 u1.2, Int.emod_eq_of_lt u2.1 u2.2] at this
    rw [flip_inj hn hm this]
  · have := esc_inj s t (by rw [h]); rw [this]
  · have := esc_inj s t (by rw [h]); rw [this]

/-! how often a key has come -/
theorem seen_bump (k x : List UInt8) : ∀ l, seenN k (bump x l) = if k = x then IntKind.i64.wrap (seenN x l + 1) else seenN k l
  | [] => by
    unfold bump seenN
    split
    · rfl
    · rfl
  | (y, n) :: l => by
    unfold bump
    by_cases h : x = y
    · subst h
      rw [if_pos rfl]
      simp only [seenN, if_true]
      split <;> rfl
    · rw [if_neg h]
      simp only [seenN, if_neg h]
      rw [seen_bump k x l]
      by_cases h2 : k = y
      · rw [if_pos h2, if_neg (by rw [h2]; exact fun e => h e.symm), if_pos h2]
      · rw [if_neg h2, if_neg h2]
structure SeenOk (s : List (List UInt8 × Int)) (S : List V) (N : Int) : Prop where
  yes : ∀ v, okV' v → v ∈ S → 1 ≤ seenN (keyV v) s ∧ seenN (keyV v) s ≤ N
  no : ∀ v, okV' v → v ∉ S → seenN (keyV v) s = 0
theorem SeenOk.bump {s S N} (h : SeenOk s S N) {v : V} (hv : okV' v) (h0 : 0 ≤ N) (hN : N < 1000000) : SeenOk (bump (keyV v) s) (v :: S) (N + 1) := by
  have hb : 0 ≤ seenN (keyV v) s ∧ seenN (keyV v) s ≤ N := by
    by_cases e : v ∈ S
    · have := h.yes v hv e; omega
    · have := h.no v hv e; omega
  have hw : IntKind.i64.wrap (seenN (keyV v) s + 1) = seenN (keyV v) s + 1 := wrap_id (by unfold i64; omega)
  refine ⟨fun w hw1 hw2 => ?_, fun w hw1 hw2 => ?_⟩
  · rw [seen_bump]
    split
    · rw [hw]; omega
    · rename_i hne
      rcases List.mem_cons.1 hw2 with rfl | hw2
      · exact absurd rfl hne
      · have := h.yes w hw1 hw2; omega
  · rw [seen_bump]
    split
    · rename_i e
      exact absurd (List.mem_cons.2 (.inl (key_inj hw1 hv e))) hw2
    · exact h.no w hw1 fun e => hw2 (List.mem_cons_of_mem _ e)
theorem SeenOk.same {s S N} (h : SeenOk s S N) {v : V} (hm : v ∈ S) : SeenOk s (v :: S) N := by
  refine ⟨fun w h1 h2 => h.yes w h1 ?_, fun w h1 h2 => h.no w h1 fun e => h2 (List.mem_cons_of_mem _ e)⟩
  rcases List.mem_cons.1 h2 with rfl | h2
  · exact hm
  · exact h2
theorem ddp_congr {S T : List V} (h : ∀ x, x ∈ S ↔ x ∈ T) : ∀ l, ddp S l = ddp T l := by
  intro l
  induction l generalizing S T with
  | nil => rfl
  | cons v l ih =>
    unfold ddp
    by_cases e : v ∈ S
    · rw [if_pos e, if_pos ((h v).1 e)]; exact ih h
    · rw [if_neg e, if_neg fun x => e ((h v).2 x)]
      rw [ih (S := v :: S) (T := v :: T) fun x => by simp only [List.mem_cons, h x]]
theorem SeenOk.congr {s S T N} (h : SeenOk s S N) (e : ∀ x, x ∈ S ↔ x ∈ T) : SeenOk s T N := ⟨fun v h1 h2 => h.yes v h1 ((e v).2 h2), fun v h1 h2 => h.no v h1 fun x => h2 ((e v).1 x)⟩

/-! a total of values, without what has come -/
def Acc.core (a : Acc) : Acc := { a with seen := [] }
theorem core_core (a : Acc) : a.core.core = a.core := rfl
theorem addS_core (name : List UInt8) (a : Acc) (v : V) : (addS name a v).core = addS name a.core v := by
  unfold addS
  repeat' split
  all_goals first | rfl | (exfalso; simp_all [Acc.core]; done) | (exfalso; simp_all [Acc.core]; omega)
/-- a value that counts -/
def plusS (name : List UInt8) (a : Acc) (v : V) : Acc := { addS name a v with n := IntKind.i64.wrap (a.n + 1), seen := [] }
theorem plus_core (name : List UInt8) (a : Acc) (v : V) : plusS name a.core v = plusS name a v := by
  have h := addS_core name a v
  unfold plusS
  rw [← h]
  rfl
theorem step_null {name : List UInt8} {d : Bool} {a : Acc} {v : V} (hs : name ≠ sStar) (hk : v.k = 0) : (stepS name d a v).core = a.core := by
  unfold stepS
  split
  · rw [show countsS name d a v = false from by unfold countsS; rw [if_neg hs, if_pos hk]]
    rw [if_neg (by decide)]; rfl
  · rfl
theorem step_live {name : List UInt8} {d : Bool} {a : Acc} {v : V} (hr : right v = true) (hc : countsS name d a v = true) : (stepS name d a v).core = plusS name a v := by
  unfold stepS
  rw [if_pos hr, if_pos hc]
  rfl
/-- all of which counts -/
def plusL (name : List UInt8) (a : Acc) : List V → Acc
  | [] => a
  | v :: l => plusL name (plusS name a v) l
theorem plusL_app (name : List UInt8) : ∀ (l m : List V) (a : Acc), plusL name a (l ++ m) = plusL name (plusL name a l) m
  | [], _, _ => rfl
  | v :: l, m, a => plusL_app name l m (plusS name a v)
theorem live_cons (v : V) (l : List V) : live (v :: l) = if v.k = 0 then live l else v :: live l := by
  unfold live
  rw [List.filter_cons]
  by_cases h : v.k = 0 <;> simp [h]
theorem fold_star (d : Bool) : ∀ (l : List V) (a : Acc), (∀ x ∈ l, okV' x) → (foldA sStar d a l).core = plusL sStar a.core l
  | [], a, _ => rfl
  | v :: l, a, h => by
    have h1 : (stepS sStar d a v).core = plusS sStar a.core v := by
      rw [plus_core]
      exact step_live (h v (by simp)).1 (by unfold countsS; rw [if_pos rfl])
    show (foldA sStar d (stepS sStar d a v) l).core = plusL sStar (plusS sStar a.core v) l
    rw [fold_star d l _ fun x hx => h x (by simp [hx]), h1]
theorem fold_all {name : List UInt8} (hs : name ≠ sStar) : ∀ (l : List V) (a : Acc), (∀ x ∈ l, okV' x) → (foldA name false a l).core = plusL name a.core (live l)
  | [], a, _ => rfl
  | v :: l, a, h => by
    have ih := fold_all hs l (stepS name false a v) fun x hx => h x (by simp [hx])
    show (foldA name false (stepS name false a v) l).core = _
    rw [ih, live_cons]
    by_cases hk : v.k = 0
    · rw [if_pos hk, step_null hs hk]
    · rw [if_neg hk, step_live (h v (by simp)).1 (by unfold countsS; rw [if_neg hs, if_neg hk]; rfl), ← plus_core]
      rfl
theorem fold_once {name : List UInt8} (hs : name ≠ sStar) : ∀ (l : List V) (a : Acc) (S : List V) (N : Int), (∀ x ∈ l, okV' x) → SeenOk a.seen S N → 0 ≤ N → N + l.length < 1000000 → (foldA name true a l).core = plusL name a.core (ddp S (live l))
  | [], a, S, N, _, _, _, _ => rfl
  | v :: l, a, S, N, h, hS, h0, hN => by
    have hv := h v (by simp)
    have hl : ∀ x ∈ l, okV' x := fun x hx => h x (by simp [hx])
    rw [List.length_cons] at hN
    show (foldA name true (stepS name true a v) l).core = _
    rw [live_cons]
    by_cases hk : v.k = 0
    · have e : (stepS name true a v).seen = a.seen := by
        unfold stepS
        rw [if_pos hv.1, show countsS name true a v = false from by unfold countsS; rw [if_neg hs, if_pos hk], if_neg (by decide)]
        unfold seenS
        rw [if_neg hs, if_pos hk]
      rw [if_pos hk, fold_once hs l _ S N hl (by rw [e]; exact hS) h0 (by omega), step_null hs hk]
    · rw [if_neg hk]
      have e : (stepS name true a v).seen = bump (keyV v) a.seen := by
        unfold stepS
        rw [if_pos hv.1]
        have : seenS name true a v = bump (keyV v) a.seen := by unfold seenS; rw [if_neg hs, if_neg hk]; rfl
        split <;> exact this
      have hS' := hS.bump hv h0 (by omega)
      rw [fold_once hs l _ (v :: S) (N + 1) hl (by rw [e]; exact hS') (by omega) (by omega)]
      rw [show ddp S (v :: live l) = if v ∈ S then ddp S (live l) else v :: ddp (v :: S) (live l) from rfl]
      have hc : countsS name true a v = (seenN (keyV v) (bump (keyV v) a.seen) == 1) := by unfold countsS; rw [if_neg hs, if_neg hk]; rfl
      by_cases hm : v ∈ S
      · have := hS.yes v hv hm
        have c0 : countsS name true a v = false := by
          rw [hc, seen_bump, if_pos rfl, wrap_id (by unfold i64; omega)]
          simp; omega
        rw [if_pos hm, ddp_congr (S := v :: S) (T := S) fun x => ⟨fun y => by rcases List.mem_cons.1 y with rfl | y; exact hm; exact y, fun y => List.mem_cons_of_mem _ y⟩]
        congr 1
        unfold stepS
        rw [if_pos hv.1, c0]
        rfl
      · have := hS.no v hv hm
        have c0 : countsS name true a v = true := by
          rw [hc, seen_bump, if_pos rfl, this]
          rfl
        rw [if_neg hm, step_live hv.1 c0, ← plus_core]
        rfl
theorem final_core (name : List UInt8) (a : Acc) : finalS name a.core = finalS name a := rfl
/-- a total is that of what counts -/
theorem of_cnt {name : List UInt8} {d : Bool} {l : List V} (he : newE name d = 0) (h : ∀ x ∈ l, okV' x) (hl : l.length < 1000000) : ofS name d l = finalS name (plusL name acc0 (cntL name d l)) := by
  unfold ofS
  rw [if_neg (by omega), if_pos (List.all_eq_true.2 fun x hx => (h x hx).1), ← final_core]
  unfold cntL
  by_cases hs : name = sStar
  · subst hs
    rw [if_pos rfl, fold_star d l acc0 h]; rfl
  · rw [if_neg hs]
    cases d
    · rw [fold_all hs l acc0 h]; rfl
    · rw [fold_once hs l acc0 [] 0 h ⟨fun v _ hm => (List.not_mem_nil hm).elim, fun v _ _ => rfl⟩ (by decide) (by omega)]; rfl
/-! what a total comes to, of all that counts -/
def sumA (p : Int × Int) (v : V) : Int × Int := (hiS p.1 p.2 (intV v), loS p.2 (intV v))
def bstA (s : Int) (p : Option V) (v : V) : Option V := match p with
  | none => some v
  | some b => if 0 < s * compareV v b then some v else some b
def sumP (l : List V) : Int × Int := l.foldl sumA (0, 0)
def bestP (s : Int) (l : List V) : Option V := l.foldl (bstA s) none
def bestV (name : List UInt8) (l : List V) : V := if name = sMin then (bestP (-1) l).getD null else if name = sMax then (bestP 1 l).getD null else null
def totA (name : List UInt8) (l : List V) : Acc :=
  ⟨l.length, if name = sSum ∨ name = sTotal then (sumP l).1 else 0, if name = sSum ∨ name = sTotal then (sumP l).2 else 0, bestV name l, if name = sConcat then l else [], []⟩
theorem bestP_some (s : Int) : ∀ (l : List V) (b : V), ∃ c, l.foldl (bstA s) (some b) = some c
  | [], b => ⟨b, rfl⟩
  | v :: l, b => by
    show ∃ c, l.foldl (bstA s) (bstA s (some b) v) = some c
    unfold bstA
    simp only
    split
    · exact bestP_some s l v
    · exact bestP_some s l b
theorem bestP_ne (s : Int) {l : List V} (h : l ≠ []) : ∃ c, bestP s l = some c := by
  cases l with
  | nil => exact absurd rfl h
  | cons v l => exact bestP_some s l v
theorem plus_rev (name : List UInt8) : ∀ r : List V, r.length < 1000000 → plusL name acc0 r.reverse = totA name r.reverse
  | [], _ => by
    unfold totA bestV
    simp [plusL, acc0, sumP, bestP]
  | v :: r, h => by
    rw [List.length_cons] at h
    have ih := plus_rev name r (by omega)
    rw [List.reverse_cons, plusL_app, ih]
    generalize hm : r.reverse = m
    have hl : m.length < 999999 := by rw [← hm, List.length_reverse]; omega
    show plusS name (totA name m) v = totA name (m ++ [v])
    have e1 : sumP (m ++ [v]) = sumA (sumP m) v := by unfold sumP; rw [List.foldl_append]; rfl
    have e2 : ∀ s, bestP s (m ++ [v]) = bstA s (bestP s m) v := fun s => by unfold bestP; rw [List.foldl_append]; rfl
    have e3 : IntKind.i64.wrap ((m.length : Int) + 1) = ((m ++ [v]).length : Int) := by
      rw [wrap_id (by unfold i64; omega), List.length_append]; simp
    have hn : (m.length : Int) = 0 ↔ m = [] := by rw [← List.length_eq_zero_iff]; omega
    have hb : ∀ s : Int, (if m = [] ∨ 0 < s * compareV v ((bestP s m).getD null) then v else (bestP s m).getD null) = (bstA s (bestP s m) v).getD null := fun s => by
      by_cases h0 : m = []
      · subst h0; rw [if_pos (.inl rfl)]; rfl
      · obtain ⟨c, hc⟩ := bestP_ne s h0
        rw [hc]
        unfold bstA
        simp only [Option.getD_some, h0, false_or]
        split <;> rfl
    unfold plusS addS totA bestV
    simp only [e1, e2, e3]
    by_cases c1 : name = sSum ∨ name = sTotal
    · have n1 : name ≠ sMin := by rcases c1 with rfl | rfl <;> decide
      have n2 : name ≠ sMax := by rcases c1 with rfl | rfl <;> decide
      have n3 : name ≠ sConcat := by rcases c1 with rfl | rfl <;> decide
      simp only [if_pos c1, if_neg n1, if_neg n2, if_neg n3, sumA]
    · by_cases c2 : name = sMin
      · have n2 : name ≠ sMax := by rw [c2]; decide
        have n3 : name ≠ sConcat := by rw [c2]; decide
        have hb1 := hb (-1)
        have e : compareV v ((bestP (-1) m).getD null) < 0 ↔ 0 < (-1 : Int) * compareV v ((bestP (-1) m).getD null) := by omega
        simp only [if_neg c1, if_pos c2, if_neg n2, if_neg n3, hn, e, ← hb1]
        split <;> rfl
      · by_cases c3 : name = sMax
        · have n3 : name ≠ sConcat := by rw [c3]; decide
          have hb1 := hb 1
          have e : compareV v ((bestP 1 m).getD null) > 0 ↔ 0 < (1 : Int) * compareV v ((bestP 1 m).getD null) := by omega
          simp only [if_neg c1, if_neg c2, if_pos c3, if_neg n3, hn, e, ← hb1]
          split <;> rfl
        · by_cases c4 : name = sConcat
          · simp only [if_neg c1, if_neg c2, if_neg c3, if_pos c4]
          · simp only [if_neg c1, if_neg c2, if_neg c3, if_neg c4]
theorem plus_tot (name : List UInt8) (l : List V) (h : l.length < 1000000) : plusL name acc0 l = totA name l := by
  have := plus_rev name l.reverse (by simpa using h)
  rwa [List.reverse_reverse] at this
theorem sum_comm (p : Int × Int) (v w : V) : sumA (sumA p v) w = sumA (sumA p w) v := by
  unfold sumA
  generalize intV v = x
  generalize intV w = y
  obtain ⟨a, b⟩ := p
  simp only [Prod.mk.injEq]
  unfold hiS loS
  constructor
  · have h1 : ∀ b x y : Int, (b + x % 18446744073709551616 + 0) / 18446744073709551616 + ((b + x % 18446744073709551616 + 0) % 18446744073709551616 + y % 18446744073709551616 + 0) / 18446744073709551616 = (b + x % 18446744073709551616 + y % 18446744073709551616) / 18446744073709551616 := by
      intro b x y; omega
    have a1 := h1 b x y
    have a2 := h1 b y x
    generalize (b + x % 18446744073709551616 + 0) / 18446744073709551616 = u1 at *
    generalize ((b + x % 18446744073709551616 + 0) % 18446744073709551616 + y % 18446744073709551616 + 0) / 18446744073709551616 = u2 at *
    generalize (b + y % 18446744073709551616 + 0) / 18446744073709551616 = u3 at *
    generalize ((b + y % 18446744073709551616 + 0) % 18446744073709551616 + x % 18446744073709551616 + 0) / 18446744073709551616 = u4 at *
    rw [show b + y % 18446744073709551616 + x % 18446744073709551616 = b + x % 18446744073709551616 + y % 18446744073709551616 from by omega] at a2
    generalize (if x < 0 then (18446744073709551615 : Int) else 0) = cx
    generalize (if y < 0 then (18446744073709551615 : Int) else 0) = cy
    omega
  · omega
theorem bst_comm {s : Int} (hs : s = 1 ∨ s = -1) {v w : V} (hv : right v = true) (hw : right w = true) (p : Option V) : bstA s (bstA s p v) w = bstA s (bstA s p w) v := by
  have a1 := acv_anti v w
  have z := @acv_zero v w hv hw
  cases p with
  | none =>
    unfold bstA
    simp only
    by_cases e : compareV v w = 0
    · rw [z.1 e]
    · rcases hs with rfl | rfl
      all_goals repeat' split
      all_goals first | rfl | omega
  | some b =>
    have a2 := acv_anti v b
    have a3 := acv_anti w b
    have t1 := acv_trans v w b
    have t2 := acv_trans w v b
    have t3 := acv_trans b v w
    have t4 := acv_trans b w v
    have t5 := acv_trans v b w
    have t6 := acv_trans w b v
    by_cases e : compareV v w = 0
    · have := z.1 e; subst this; rfl
    · have hu : ∀ c x, bstA s (some c) x = if 0 < s * compareV x c then some x else some c := fun _ _ => rfl
      rw [hu, hu]
      by_cases h1 : 0 < s * compareV v b <;> by_cases h2 : 0 < s * compareV w b
      · rw [if_pos h1, if_pos h2, hu, hu]
        rcases hs with rfl | rfl
        all_goals repeat' split
        all_goals first | rfl | omega
      · rw [if_pos h1, if_neg h2, hu, hu, if_pos h1, if_neg]
        rcases hs with rfl | rfl <;> omega
      · rw [if_neg h1, if_pos h2, hu, hu, if_pos h2, if_neg]
        rcases hs with rfl | rfl <;> omega
      · rw [if_neg h1, if_neg h2, hu, hu, if_neg h1, if_neg h2]
theorem tot_perm {name : List UInt8} {l m : List V} (hp : l.Perm m) (hr : ∀ x ∈ l, right x = true) : finalS name (totA name l) = finalS name (totA name m) := by
  have e1 : sumP l = sumP m := hp.foldl_eq' (fun x _ y _ z => sum_comm z x y) _
  have e2 : bestP 1 l = bestP 1 m := hp.foldl_eq' (fun x hx y hy z => bst_comm (.inl rfl) (hr x hx) (hr y hy) z) _
  have e3 : bestP (-1) l = bestP (-1) m := hp.foldl_eq' (fun x hx y hy z => bst_comm (.inr rfl) (hr x hx) (hr y hy) z) _
  have e4 : l.length = m.length := hp.length_eq
  have e5 : sortV l = sortV m := sort_perm_eq hp hr
  have e6 : joinS l = joinS m := by unfold joinS; rw [e4, e5]
  unfold finalS totA bestV
  simp only [e1, e2, e3, e4]
  by_cases c : name = sConcat
  · simp only [if_pos c, e6]
  · simp only [if_neg c]
theorem live_perm {l m : List V} (h : l.Perm m) : (live l).Perm (live m) := h.filter _
theorem ddp_mem : ∀ (l S : List V) (x : V), x ∈ ddp S l ↔ x ∈ l ∧ x ∉ S
  | [], S, x => by simp [ddp]
  | v :: l, S, x => by
    unfold ddp
    split
    · rename_i h
      rw [ddp_mem l S x, List.mem_cons]
      constructor
      · rintro ⟨a, b⟩; exact ⟨.inr a, b⟩
      · rintro ⟨a | a, b⟩
        · subst a; exact absurd h b
        · exact ⟨a, b⟩
    · rename_i h
      rw [List.mem_cons, ddp_mem l _ x, List.mem_cons, List.mem_cons]
      constructor
      · rintro (a | ⟨a, b⟩)
        · subst a; exact ⟨.inl rfl, h⟩
        · exact ⟨.inr a, fun c => b (.inr c)⟩
      · rintro ⟨a | a, b⟩
        · exact .inl a
        · by_cases c : x = v
          · exact .inl c
          · exact .inr ⟨a, fun d => d.elim c b⟩
theorem ddp_nodup : ∀ (l S : List V), (ddp S l).Nodup
  | [], S => List.nodup_nil
  | v :: l, S => by
    unfold ddp
    split
    · exact ddp_nodup l S
    · exact List.nodup_cons.2 ⟨fun h => ((ddp_mem l _ v).1 h).2 (by simp), ddp_nodup l _⟩
theorem ddp_perm {l m : List V} (h : l.Perm m) : (ddp [] l).Perm (ddp [] m) := by
  refine (List.perm_iff_count.2 fun x => ?_)
  have := fun (k : List V) => (ddp_nodup k []).count (a := x)
  rw [this l, this m]
  simp only [ddp_mem, h.mem_iff]
theorem cnt_perm {name : List UInt8} {d : Bool} {l m : List V} (h : l.Perm m) : (cntL name d l).Perm (cntL name d m) := by
  unfold cntL
  split
  · exact h
  · split
    · exact ddp_perm (live_perm h)
    · exact live_perm h
theorem ddp_len : ∀ (l S : List V), (ddp S l).length ≤ l.length
  | [], _ => Nat.le_refl _
  | v :: l, S => by
    unfold ddp
    split
    · exact Nat.le_succ_of_le (ddp_len l S)
    · exact Nat.succ_le_succ (ddp_len l _)
theorem live_len (l : List V) : (live l).length ≤ l.length := List.length_filter_le _ _
theorem live_mem {l : List V} {x : V} (h : x ∈ live l) : x ∈ l := (List.mem_filter.1 h).1
theorem cnt_mem {name : List UInt8} {d : Bool} {l : List V} {x : V} (h : x ∈ cntL name d l) : x ∈ l := by
  unfold cntL at h
  split at h
  · exact h
  · split at h
    · exact live_mem ((ddp_mem _ _ _).1 h).1
    · exact live_mem h
theorem cnt_len (name : List UInt8) (d : Bool) (l : List V) : (cntL name d l).length ≤ l.length := by
  unfold cntL
  split
  · exact Nat.le_refl _
  · split
    · exact Nat.le_trans (ddp_len _ _) (live_len l)
    · exact live_len l
theorem of_tot {name : List UInt8} {d : Bool} {l : List V} (he : newE name d = 0) (h : ∀ x ∈ l, okV' x) (hl : l.length < 1000000) : ofS name d l = finalS name (totA name (cntL name d l)) := by
  rw [of_cnt he h hl, plus_tot _ _ (Nat.lt_of_le_of_lt (cnt_len ..) hl)]
/-- a total hangs not on the order -/
theorem of_perm {name : List UInt8} {d : Bool} {l m : List V} (hp : l.Perm m) (h : ∀ x ∈ l, okV' x) (hl : l.length < 1000000) : ofS name d l = ofS name d m := by
  by_cases he : newE name d = 0
  · rw [of_tot he h hl, of_tot he (fun x hx => h x (hp.mem_iff.2 hx)) (by rw [← hp.length_eq]; exact hl)]
    exact tot_perm (cnt_perm hp) fun x hx => (h x (cnt_mem hx)).1
  · unfold ofS
    rw [if_pos he, if_pos he]
/-- with and without NULLs; each one once -/
theorem live_ddp : ∀ (l S T : List V), (∀ x, x.k ≠ 0 → (x ∈ S ↔ x ∈ T)) → live (ddp S l) = ddp T (live l)
  | [], _, _, _ => rfl
  | v :: l, S, T, h => by
    have hd : ∀ (S : List V) (v : V) (l : List V), ddp S (v :: l) = if v ∈ S then ddp S l else v :: ddp (v :: S) l := fun _ _ _ => rfl
    rw [live_cons, hd]
    by_cases hk : v.k = 0
    · rw [if_pos hk]
      split
      · exact live_ddp l S T h
      · rw [live_cons, if_pos hk]
        refine live_ddp l _ T fun x hx => ?_
        rw [List.mem_cons, ← h x hx]
        exact ⟨fun e => e.resolve_left fun e => hx (e ▸ hk), .inr⟩
    · rw [if_neg hk, hd]
      by_cases hm : v ∈ S
      · rw [if_pos hm, if_pos ((h v hk).1 hm)]; exact live_ddp l S T h
      · rw [if_neg hm, if_neg fun e => hm ((h v hk).2 e), live_cons, if_neg hk]
        rw [live_ddp l (v :: S) (v :: T) fun x hx => by rw [List.mem_cons, List.mem_cons, h x hx]]
theorem of_once {name : List UInt8} {l : List V} (hs : name ≠ sStar) (h : ∀ x ∈ l, okV' x) (hl : l.length < 1000000) : ofS name true l = ofS name false (ddp [] l) := by
  have hn : newE name true = newE name false := by
    unfold newE
    split
    · rw [show (true && name == sStar) = false from by simpa using hs]; rfl
    · rfl
  by_cases he : newE name true = 0
  · rw [of_tot he h hl, of_tot (hn ▸ he) (fun x hx => h x ((ddp_mem _ _ _).1 hx).1) (Nat.lt_of_le_of_lt (ddp_len _ _) hl)]
    unfold cntL
    rw [if_neg hs, if_pos rfl, if_neg hs, if_neg (by decide), live_ddp l [] [] fun x _ => Iff.rfl]
  · unfold ofS
    rw [if_pos he, if_pos (hn ▸ he), hn]
theorem of_live {name : List UInt8} {d : Bool} {l m : List V} (hs : name ≠ sStar) (e : live l = live m) (h : ∀ x ∈ l, okV' x) (hl : l.length < 1000000) (h' : ∀ x ∈ m, okV' x) (hl' : m.length < 1000000) : ofS name d l = ofS name d m := by
  by_cases he : newE name d = 0
  · rw [of_tot he h hl, of_tot he h' hl']
    unfold cntL
    rw [if_neg hs, if_neg hs, e]
  · unfold ofS
    rw [if_pos he, if_pos he]
theorem bst_self {s : Int} (hs : s = 1 ∨ s = -1) (p : Option V) (v : V) : bstA s (bstA s p v) v = bstA s p v := by
  have a1 := acv_anti v v
  cases p with
  | none =>
    unfold bstA
    simp only
    rcases hs with rfl | rfl <;> rw [if_neg (by omega)]
  | some b =>
    have hu : ∀ c x, bstA s (some c) x = if 0 < s * compareV x c then some x else some c := fun _ _ => rfl
    rw [hu]
    split
    · rw [hu]
      rcases hs with rfl | rfl <;> rw [if_neg (by omega)]
    · rename_i h
      rw [hu, if_neg h]
theorem bst_ddp {s : Int} (hs : s = 1 ∨ s = -1) : ∀ (l S : List V) (p : Option V), (∀ x ∈ l, right x = true) → (∀ x ∈ S, right x = true ∧ bstA s p x = p) → (ddp S l).foldl (bstA s) p = l.foldl (bstA s) p
  | [], _, _, _, _ => rfl
  | v :: l, S, p, hr, h => by
    have hr' : ∀ x ∈ l, right x = true := fun x hx => hr x (by simp [hx])
    unfold ddp
    split
    · rename_i hm
      rw [List.foldl_cons, (h v hm).2]
      exact bst_ddp hs l S p hr' h
    · rw [List.foldl_cons, List.foldl_cons]
      refine bst_ddp hs l (v :: S) _ hr' fun x hx => ?_
      rcases List.mem_cons.1 hx with rfl | hx
      · exact ⟨hr x (by simp), bst_self hs p x⟩
      · exact ⟨(h x hx).1, by rw [bst_comm hs (hr v (by simp)) (h x hx).1, (h x hx).2]⟩
theorem of_best {name : List UInt8} {l : List V} (hn : name = sMin ∨ name = sMax) (h : ∀ x ∈ l, okV' x) (hl : l.length < 1000000) : ofS name true l = ofS name false l := by
  have hr : ∀ x ∈ live l, right x = true := fun x hx => (h x (live_mem hx)).1
  rcases hn with rfl | rfl
  · rw [of_tot (d := true) (by decide) h hl, of_tot (d := false) (by decide) h hl]
    show (⟨(bestP (-1) (ddp [] (live l))).getD null, 0⟩ : R) = ⟨(bestP (-1) (live l)).getD null, 0⟩
    unfold bestP
    rw [bst_ddp (.inr rfl) _ _ _ hr fun x hx => (List.not_mem_nil hx).elim]
  · rw [of_tot (d := true) (by decide) h hl, of_tot (d := false) (by decide) h hl]
    show (⟨(bestP 1 (ddp [] (live l))).getD null, 0⟩ : R) = ⟨(bestP 1 (live l)).getD null, 0⟩
    unfold bestP
    rw [bst_ddp (.inl rfl) _ _ _ hr fun x hx => (List.not_mem_nil hx).elim]
theorem of_best_e {name : List UInt8} {d : Bool} {l : List V} (hn : name = sMin ∨ name = sMax) (h : ∀ x ∈ l, right x = true) : (ofS name d l).e = 0 := by
  unfold ofS
  have he : newE name d = 0 := by rcases hn with rfl | rfl <;> cases d <;> decide
  rw [if_neg (by omega), if_pos (List.all_eq_true.2 h)]
  rcases hn with rfl | rfl <;> rfl
/-! one value alone -/
theorem cnt_one {name : List UInt8} {d : Bool} {v : V} (hs : name ≠ sStar) (hk : v.k ≠ 0) : cntL name d [v] = [v] := by
  unfold cntL
  rw [if_neg hs, live_cons, if_neg hk]
  cases d <;> rfl
theorem of_one {name : List UInt8} {d : Bool} {v : V} (he : newE name d = 0) (hs : name ≠ sStar) (h : okV' v) (hk : v.k ≠ 0) : ofS name d [v] = finalS name (totA name [v]) := by
  rw [of_tot he (fun x hx => by rw [List.mem_singleton.1 hx]; exact h) (by show 1 < 1000000; omega), cnt_one hs hk]
theorem over_one {x : Int} (h : i64 x) : overS (hiS 0 0 x) (loS 0 x) = ⟨numV x, 0⟩ := by
  unfold i64 at h
  unfold overS hiS loS
  by_cases h0 : x < 0
  · have e1 : (0 + x % 18446744073709551616 + 0) % 18446744073709551616 = x + 18446744073709551616 := by omega
    have e2 : (0 + x % 18446744073709551616 + 0) / 18446744073709551616 = 0 := by omega
    have e3 : ¬ x + 18446744073709551616 < 9223372036854775808 := by omega
    have e4 : (0 + (18446744073709551615 : Int) + 0) % 18446744073709551616 = 18446744073709551615 := by decide
    rw [e1, e2, if_pos h0, if_neg e3, if_pos e4, if_neg e3]
    rw [show x + 18446744073709551616 - 18446744073709551616 = x from by omega]
  · have e1 : (0 + x % 18446744073709551616 + 0) % 18446744073709551616 = x := by omega
    have e2 : (0 + x % 18446744073709551616 + 0) / 18446744073709551616 = 0 := by omega
    have e3 : x < 9223372036854775808 := by omega
    have e4 : (0 + (0 : Int) + 0) % 18446744073709551616 = 0 := by decide
    rw [e1, e2, if_neg h0, if_pos e3, if_pos e4, if_pos e3]
theorem one_sum {d : Bool} {v : V} (h : okV' v) (hi : i64 (intV v)) (hk : v.k ≠ 0) : ofS sSum d [v] = ⟨numV (intV v), 0⟩ := by
  rw [of_one (by cases d <;> decide) (by decide) h hk]
  exact over_one hi
theorem one_total {d : Bool} {v : V} (h : okV' v) (hi : i64 (intV v)) (hk : v.k ≠ 0) : ofS sTotal d [v] = ⟨numV (intV v), 0⟩ := by
  rw [of_one (by cases d <;> decide) (by decide) h hk]
  exact over_one hi
theorem one_min {d : Bool} {v : V} (h : okV' v) (hk : v.k ≠ 0) : ofS sMin d [v] = ⟨v, 0⟩ := by
  rw [of_one (by cases d <;> decide) (by decide) h hk]; rfl
theorem one_max {d : Bool} {v : V} (h : okV' v) (hk : v.k ≠ 0) : ofS sMax d [v] = ⟨v, 0⟩ := by
  rw [of_one (by cases d <;> decide) (by decide) h hk]; rfl
theorem one_count {d : Bool} {v : V} (h : okV' v) (hk : v.k ≠ 0) : ofS sCount d [v] = ⟨numV 1, 0⟩ := by
  rw [of_one (by cases d <;> decide) (by decide) h hk]; rfl
theorem one_concat {d : Bool} {v : V} (h : okV' v) (hl : (textV v).length ≤ 65536) (hk : v.k ≠ 0) : ofS sConcat d [v] = ⟨⟨2, 0, textV v⟩, 0⟩ := by
  rw [of_one (by cases d <;> decide) (by decide) h hk]
  show joinS [v] = _
  unfold joinS
  have e : (sortV [v]).map textV = [textV v] := rfl
  rw [e, if_neg (by simp [lenL]; omega)]
  have : Lib.join [textV v] [44] = textV v := by
    rw [Lib.join_cons]; simp [Lib.joinTail]
  rw [this]

/-- values as elements of a row, and back -/
def vG (g : Nat → V) : Nat → AV := fun j => encV (g j)
def gO (n : Nat) (f : Nat → AV) : Nat → V := fun j => (lO n f).getD j null
/-- a row of one's own that holds these -/
def rowG (n : Nat) (g : Nat → V) : St := St.mk' 0 1 0 [] [(0, .arr 34 3 n (vG g))] []
theorem gO_lt {n : Nat} {f : Nat → AV} {j : Nat} (h : j < n) : gO n f j = vO (f j) := by
  unfold gO lO
  simp [List.getD_eq_getElem?_getD, h]
theorem gO_vG {n : Nat} {g : Nat → V} {j : Nat} (h : j < n) : gO n (vG g) j = g j := gO_lt h
theorem vG_gO {n : Nat} {f : Nat → AV} {j : Nat} (hj : j < n) (h : isV (f j) = true) : f j = vG (gO n f) j := by
  unfold vG
  rw [gO_lt hj]
  exact isV_eq h
theorem gO_rgt {n : Nat} {f : Nat → AV} (hr : ∀ x ∈ lO n f, right x = true) : ∀ q, q < n → right (gO n f q) = true := fun q hq => by
  refine hr _ ?_
  unfold gO
  rw [List.getD_eq_getElem?_getD, List.getElem?_eq_getElem (by rw [lO_len]; exact hq)]
  exact List.getElem_mem _
theorem upd_swG (g : Nat → V) (x y q : Nat) : upd (upd (vG g) x (encV (g y))) y (encV (g x)) q = vG (swG g x y) q := by
  unfold vG swG
  by_cases h1 : q = y
  · subst h1
    rw [upd_same]
    split
    · rename_i h; rw [h]
    · rw [if_pos rfl]
  · rw [upd_ne _ _ h1]
    by_cases h2 : q = x
    · subst h2; rw [upd_same, if_pos rfl]
    · rw [upd_ne _ _ h2, if_neg h2, if_neg h1]
theorem hc_swp (n : Nat) (f : Nat → AV) (a b k c : Nat) (h1 : a + k ≤ b) (h2 : b + k ≤ n) (hn : n ≤ 1000000000) (hf : ∀ i, i < n → isV (f i) = true) :
    HC Tryz.prog GV 238 [.hs 0 0 n 3 none, .int .i64 a, .int .i64 b, .int .i64 k, .clo c [] []] (St.small [.arr 34 3 n f] []) (.tup []) (rowG n (swpG (gO n f) a b k)) := by
  generalize hg : gO n f = g
  refine hc_of EB4_ok mixed (show Tryz.prog.funcs[238]? = some Tryz.f238 from rfl) (Nat.le_of_ble_eq_true rfl) (Nat.le_of_ble_eq_true rfl) ?_
  refine loop_fam EB4_ok mixed (σ := Nat) (fun i => i ≤ k) (fun i => k - i) 0 (Nat.zero_le _) 1 0 [0, 1, 2, 3, 4] (fun i => [(10, .int .i64 i)]) [] (fun i => [(0, .arr 34 3 n (vG (swpG g a b i)))]) (fun _ => []) ?_ ?_ ?_ ?_
  · rfl
  · rfl
  · refine Wk.mk' rfl rfl trivial ?_ ?_
    repeat' (refine BR.mk (fun _ => ?_) (fun _ => ?_))
    any_goals first | exact trivial | exact Wv.any _ | (refine Wv.int ?_; with_reducible rfl) | (refine Wv.str ?_; with_reducible rfl) | (refine Wv.bool ?_; with_reducible rfl) | refine Wv.int ?_ | refine Wv.str ?_ | refine Wv.bool ?_ | exact Wv.same rfl
    · rfl
    · refine ⟨Nat.le_of_ble_eq_true rfl, .inl ⟨rfl, _, rfl, arr_same (fun j hj => ?_) fun j _ => rfl⟩⟩
      rw [vG_gO hj (hf j hj), hg]
      show encV _ = encV _
      unfold swpG
      repeat' split
      all_goals first | rfl | omega
  · intro i hi
    have w1 : IntKind.i64.wrap ((a : Int) + i) = ((a + i : Nat) : Int) := by rw [wrap_id (by unfold i64; omega)]; omega
    have w2 : IntKind.i64.wrap ((b : Int) + i) = ((b + i : Nat) : Int) := by rw [wrap_id (by unfold i64; omega)]; omega
    repeat' (refine BR.mk (fun h => ?_) (fun h => ?_) <;> first | contradiction | (have h := of_decide_eq_true h) | (have h := of_decide_eq_false h) | skip)
    all_goals try exact (show commutes _ _ = true by kernel_rfl)
    all_goals try ((try dsimp only); (first | rw [w1] | rw [w2] | skip); first | exact ⟨⟨by omega, by omega⟩, rfl⟩ | exact ⟨by omega, rfl⟩)
    · refine Again.fam (i + 1) (by show _ ≤ _; omega) (by show _ < _; omega) rfl rfl rfl rfl trivial ?_ ?_
      · repeat' (refine BR.mk (fun _ => ?_) (fun _ => ?_))
        any_goals first | exact trivial | exact Wv.any _ | (refine Wv.int ?_; with_reducible rfl) | (refine Wv.str ?_; with_reducible rfl) | (refine Wv.bool ?_; with_reducible rfl) | refine Wv.int ?_ | refine Wv.str ?_ | refine Wv.bool ?_ | exact Wv.same rfl
        rw [wrap_id (by unfold i64; omega)]; rfl
      · repeat' (refine BR.mk (fun _ => ?_) (fun _ => ?_))
        any_goals first | exact trivial | exact Wv.any _ | (refine Wv.int ?_; with_reducible rfl) | (refine Wv.str ?_; with_reducible rfl) | (refine Wv.bool ?_; with_reducible rfl) | refine Wv.int ?_ | refine Wv.str ?_ | refine Wv.bool ?_ | exact Wv.same rfl
        refine ⟨Nat.le_of_ble_eq_true rfl, .inl ⟨rfl, _, rfl, arr_same (fun j hj => ?_) fun j _ => rfl⟩⟩
        have hlt : (i : Int) < (k : Int) := ‹_›
        have e := upd_swG (swpG g a b i) (a + i) (b + i) j
        have e2 := swp_step g a b i (by omega) j
        refine Eq.trans ?_ (e.trans (congrArg encV e2))
        show upd (upd (vG (swpG g a b i)) (0 + (IntKind.i64.wrap ((a : Int) + i)).toNat) (encV (swpG g a b i (0 + (IntKind.i64.wrap ((b : Int) + i)).toNat)))) (0 + (IntKind.i64.wrap ((b : Int) + i)).toNat) (encV (swpG g a b i (0 + (IntKind.i64.wrap ((a : Int) + i)).toNat))) j = _
        rw [w1, w2, show 0 + (((a + i : Nat) : Int)).toNat = a + i from by omega, show 0 + (((b + i : Nat) : Int)).toNat = b + i from by omega]
    · have hlt : ¬ (i : Int) < (k : Int) := ‹_›
      have e : i = k := by omega
      subst e
      refine Go.Ab.Left.mk (Nat.le_of_ble_eq_true rfl) ⟨[], fun _ _ => rfl, Wv.same rfl, Wk.mk' rfl rfl trivial trivial ?_⟩
      repeat' (refine BR.mk (fun _ => ?_) (fun _ => ?_))
      any_goals first | exact trivial | exact Wv.any _ | (refine Wv.int ?_; with_reducible rfl) | (refine Wv.str ?_; with_reducible rfl) | (refine Wv.bool ?_; with_reducible rfl) | refine Wv.int ?_ | refine Wv.str ?_ | refine Wv.bool ?_ | exact Wv.same rfl
      exact ⟨Nat.le_of_ble_eq_true rfl, .inl ⟨rfl, _, rfl, arr_same (fun j _ => rfl) fun j _ => rfl⟩⟩
noncomputable def h_swp : List AV → St → Res
  | [.hs i 0 n 3 none, .int .i64 a, .int .i64 b, .int .i64 k, .clo c [] []], m => match m.h i with
    | some (.arr T 3 n' f) => @Res.need (T = 34 ∧ n' = n ∧ (0 ≤ a ∧ 0 ≤ k ∧ a + k ≤ b ∧ b + k ≤ n) ∧ n ≤ 1000000000 ∧ ∀ q, q < n → isV (f q) = true) (Classical.propDecidable _) (.tup [])
        (m.within (St.small [.arr 34 3 n f] []) (rowG n (swpG (gO n f) a.toNat b.toNat k.toNat)) [i] [])
    | _ => .fail
  | _, _ => .fail
theorem h_swp_ok (xs : List AV) (m : St) : HRok Tryz.prog GV 238 xs m (h_swp xs m) := by
  unfold h_swp
  split
  · rename_i i n a b k c
    split
    · rename_i T n' f hi
      rintro ⟨rfl, rfl, ⟨h1, h2, h3, h4⟩, hn, hf⟩
      obtain ⟨x, rfl⟩ := Int.eq_ofNat_of_zero_le h1
      obtain ⟨z, rfl⟩ := Int.eq_ofNat_of_zero_le h2
      obtain ⟨y, rfl⟩ := Int.eq_ofNat_of_zero_le (show 0 ≤ b by omega)
      exact hc_small (hc_swp n' f x y z c (by omega) (by omega) hn hf) [i] [] (Nat.le_of_ble_eq_true rfl) (Nat.le_refl _) rfl (by simp) (by simp) ⟨⟨fun j hj => under_V (hf j hj), _, hi, fits_V hf⟩, trivial⟩ trivial
    · trivial
  · trivial
noncomputable def ES1 : Env := EB4.addH 238 h_swp
theorem ES1_ok : EnvOk Tryz.prog ES1 := Env.addH_ok EB4_ok (by kernel_rfl) h_swp_ok
theorem swpG_congr {g h : Nat → V} {a b k n : Nat} (e : ∀ q, q < n → g q = h q) (h1 : a + k ≤ n) (h2 : b + k ≤ n) {q : Nat} (hq : q < n) : swpG g a b k q = swpG h a b k q := by
  unfold swpG
  repeat' split
  all_goals exact e _ (by omega)
theorem hc_rot (n : Nat) (f : Nat → AV) (a m b c : Nat) (h1 : a < m) (h2 : m < b) (h3 : b ≤ n) (hn : n ≤ 1000000000) (hf : ∀ i, i < n → isV (f i) = true) :
    HC Tryz.prog GV 232 [.hs 0 0 n 3 none, .int .i64 a, .int .i64 m, .int .i64 b, .clo c [] []] (St.small [.arr 34 3 n f] []) (.tup []) (rowG n (rotG (gO n f) a m b)) := by
  generalize hg : gO n f = g
  have w1 : IntKind.i64.wrap ((m : Int) - a) = ((m - a : Nat) : Int) := by rw [wrap_id (by unfold i64; omega)]; omega
  have w2 : IntKind.i64.wrap ((b : Int) - m) = ((b - m : Nat) : Int) := by rw [wrap_id (by unfold i64; omega)]; omega
  refine hc_of ES1_ok mixed (show Tryz.prog.funcs[232]? = some Tryz.f232 from rfl) (Nat.le_of_ble_eq_true rfl) (Nat.le_of_ble_eq_true rfl) ?_
  refine loop_fam ES1_ok mixed (σ := (Nat × Nat) × (Nat → V)) (fun p => (0 < p.1.1 ∧ 0 < p.1.2 ∧ p.1.1 ≤ m ∧ m + p.1.2 ≤ n) ∧ ∀ q, rotG p.2 (m - p.1.1) m (m + p.1.2) q = rotG g a m b q) (fun p => p.1.1 + p.1.2) ((m - a, b - m), g) ⟨⟨by show 0 < m - a; omega, by show 0 < b - m; omega, by show m - a ≤ m; omega, by show m + (b - m) ≤ n; omega⟩, fun q => by
    show rotG g (m - (m - a)) m (m + (b - m)) q = _
    rw [show m - (m - a) = a from by omega, show m + (b - m) = b from by omega]⟩ 1 0 [0, 1, 2, 3, 4] (fun p => [(10, .int .i64 p.1.1), (11, .int .i64 p.1.2)]) [] (fun p => [(0, .arr 34 3 n (vG p.2))]) (fun _ => []) ?_ ?_ ?_ ?_
  · rfl
  · rfl
  · refine Wk.mk' rfl rfl trivial ?_ ?_
    repeat' (refine BR.mk (fun _ => ?_) (fun _ => ?_))
    any_goals first | exact trivial | exact Wv.any _ | (refine Wv.int ?_; with_reducible rfl) | (refine Wv.str ?_; with_reducible rfl) | (refine Wv.bool ?_; with_reducible rfl) | refine Wv.int ?_ | refine Wv.str ?_ | refine Wv.bool ?_ | exact Wv.same rfl
    · exact w1
    · exact w2
    · refine ⟨Nat.le_of_ble_eq_true rfl, .inl ⟨rfl, _, rfl, arr_same (fun j hj => ?_) fun j _ => rfl⟩⟩
      rw [vG_gO hj (hf j hj), hg]
  · rintro ⟨⟨i, j⟩, v⟩ ⟨⟨hi1, hi2, hi3, hi4⟩, hi5⟩
    simp only at hi1 hi2 hi3 hi4 hi5
    have u1 : IntKind.i64.wrap ((m : Int) - i) = ((m - i : Nat) : Int) := by rw [wrap_id (by unfold i64; omega)]; omega
    have u2 : IntKind.i64.wrap ((m : Int) + j) = ((m + j : Nat) : Int) := by rw [wrap_id (by unfold i64; omega)]; omega
    have hV : ∀ q, q < n → isV (vG v q) = true := fun _ _ => rfl
    have hw : ∀ x y k : Nat, x + k ≤ n → y + k ≤ n → ∀ q, q < n → swpG (gO n (vG v)) x y k q = swpG v x y k q := fun x y k e1 e2 q hq => swpG_congr (fun q hq => gO_vG hq) e1 e2 hq
    by_cases hij : i = j
    · subst hij
      have k0 : (((i : Nat) : Int) != (i : Int)) = false := by simp
      repeat' (refine BR.mk (fun h => ?_) (fun h => ?_) <;> first | contradiction | exact absurd (k0.symm.trans h) (by decide) | skip)
      · refine ⟨rfl, rfl, ?_, hn, hV⟩
        show 0 ≤ IntKind.i64.wrap ((m : Int) - i) ∧ 0 ≤ (i : Int) ∧ IntKind.i64.wrap ((m : Int) - i) + (i : Int) ≤ (m : Int) ∧ (m : Int) + (i : Int) ≤ n
        rw [u1]; omega
      · refine Go.Ab.Left.mk (Nat.le_of_ble_eq_true rfl) ⟨[], fun _ _ => rfl, Wv.same rfl, Wk.mk' rfl rfl trivial trivial ?_⟩
        repeat' (refine BR.mk (fun _ => ?_) (fun _ => ?_))
        any_goals first | exact trivial | exact Wv.any _ | (refine Wv.int ?_; with_reducible rfl) | (refine Wv.str ?_; with_reducible rfl) | (refine Wv.bool ?_; with_reducible rfl) | refine Wv.int ?_ | refine Wv.str ?_ | refine Wv.bool ?_ | exact Wv.same rfl
        refine ⟨Nat.le_of_ble_eq_true rfl, .inl ⟨rfl, _, rfl, arr_same (fun q hq => ?_) fun _ _ => rfl⟩⟩
        show encV (swpG (gO n (vG v)) (IntKind.i64.wrap ((m : Int) - i)).toNat (m : Int).toNat (i : Int).toNat q) = encV (rotG g a m b q)
        rw [u1, Int.toNat_natCast, Int.toNat_natCast, Int.toNat_natCast, hw _ _ _ (by omega) (by omega) q hq, rot_last v m i hi3 q, hi5]
    · have k0 : (((i : Nat) : Int) != (j : Int)) = true := by simp; omega
      by_cases hc : j < i
      · have k1 : decide (((i : Nat) : Int) > (j : Int)) = true := decide_eq_true (by omega)
        repeat' (refine BR.mk (fun h => ?_) (fun h => ?_) <;> first | contradiction | exact absurd (k0.symm.trans h) (by decide) | exact absurd (k1.symm.trans h) (by decide) | skip)
        · refine ⟨rfl, rfl, ?_, hn, hV⟩
          show 0 ≤ IntKind.i64.wrap ((m : Int) - i) ∧ 0 ≤ (j : Int) ∧ IntKind.i64.wrap ((m : Int) - i) + (j : Int) ≤ (m : Int) ∧ (m : Int) + (j : Int) ≤ n
          rw [u1]; omega
        · refine Again.fam ((i - j, j), swpG v (m - i) m j) ⟨⟨by show 0 < i - j; omega, hi2, by show i - j ≤ m; omega, hi4⟩, fun q => (rot_left v m i j hi3 hc q).trans (hi5 q)⟩ (by show i - j + j < i + j; omega) rfl rfl rfl rfl trivial ?_ ?_
          · repeat' (refine BR.mk (fun _ => ?_) (fun _ => ?_))
            any_goals first | exact trivial | exact Wv.any _ | (refine Wv.int ?_; with_reducible rfl) | (refine Wv.str ?_; with_reducible rfl) | (refine Wv.bool ?_; with_reducible rfl) | refine Wv.int ?_ | refine Wv.str ?_ | refine Wv.bool ?_ | exact Wv.same rfl
            show IntKind.i64.wrap ((i : Int) - j) = ((i - j : Nat) : Int)
            rw [wrap_id (by unfold i64; omega)]; omega
          · repeat' (refine BR.mk (fun _ => ?_) (fun _ => ?_))
            any_goals first | exact trivial | exact Wv.any _ | (refine Wv.int ?_; with_reducible rfl) | (refine Wv.str ?_; with_reducible rfl) | (refine Wv.bool ?_; with_reducible rfl) | refine Wv.int ?_ | refine Wv.str ?_ | refine Wv.bool ?_ | exact Wv.same rfl
            refine ⟨Nat.le_of_ble_eq_true rfl, .inl ⟨rfl, _, rfl, arr_same (fun q hq => ?_) fun _ _ => rfl⟩⟩
            show encV (swpG (gO n (vG v)) (IntKind.i64.wrap ((m : Int) - i)).toNat (m : Int).toNat (j : Int).toNat q) = encV (swpG v (m - i) m j q)
            rw [u1, Int.toNat_natCast, Int.toNat_natCast, Int.toNat_natCast, hw _ _ _ (by omega) (by omega) q hq]
      · have k1 : decide (((i : Nat) : Int) > (j : Int)) = false := decide_eq_false (by omega)
        have u3 : IntKind.i64.wrap (((m + j : Nat) : Int) - i) = ((m + j - i : Nat) : Int) := by rw [wrap_id (by unfold i64; omega)]; omega
        repeat' (refine BR.mk (fun h => ?_) (fun h => ?_) <;> first | contradiction | exact absurd (k0.symm.trans h) (by decide) | exact absurd (k1.symm.trans h) (by decide) | skip)
        · refine ⟨rfl, rfl, ?_, hn, hV⟩
          show 0 ≤ IntKind.i64.wrap ((m : Int) - i) ∧ 0 ≤ (i : Int) ∧ IntKind.i64.wrap ((m : Int) - i) + (i : Int) ≤ IntKind.i64.wrap (IntKind.i64.wrap ((m : Int) + j) - i) ∧ IntKind.i64.wrap (IntKind.i64.wrap ((m : Int) + j) - i) + (i : Int) ≤ n
          rw [u1, u2, u3]; omega
        · refine Again.fam ((i, j - i), swpG v (m - i) (m + j - i) i) ⟨⟨hi1, by show 0 < j - i; omega, hi3, by show m + (j - i) ≤ n; omega⟩, fun q => (rot_right v m i j hi3 (by omega) q).trans (hi5 q)⟩ (by show i + (j - i) < i + j; omega) rfl rfl rfl rfl trivial ?_ ?_
          · repeat' (refine BR.mk (fun _ => ?_) (fun _ => ?_))
            any_goals first | exact trivial | exact Wv.any _ | (refine Wv.int ?_; with_reducible rfl) | (refine Wv.str ?_; with_reducible rfl) | (refine Wv.bool ?_; with_reducible rfl) | refine Wv.int ?_ | refine Wv.str ?_ | refine Wv.bool ?_ | exact Wv.same rfl
            show IntKind.i64.wrap ((j : Int) - i) = ((j - i : Nat) : Int)
            rw [wrap_id (by unfold i64; omega)]; omega
          · repeat' (refine BR.mk (fun _ => ?_) (fun _ => ?_))
            any_goals first | exact trivial | exact Wv.any _ | (refine Wv.int ?_; with_reducible rfl) | (refine Wv.str ?_; with_reducible rfl) | (refine Wv.bool ?_; with_reducible rfl) | refine Wv.int ?_ | refine Wv.str ?_ | refine Wv.bool ?_ | exact Wv.same rfl
            refine ⟨Nat.le_of_ble_eq_true rfl, .inl ⟨rfl, _, rfl, arr_same (fun q hq => ?_) fun _ _ => rfl⟩⟩
            show encV (swpG (gO n (vG v)) (IntKind.i64.wrap ((m : Int) - i)).toNat (IntKind.i64.wrap (IntKind.i64.wrap ((m : Int) + j) - i)).toNat (i : Int).toNat q) = encV (swpG v (m - i) (m + j - i) i q)
            rw [u1, u2, u3, Int.toNat_natCast, Int.toNat_natCast, Int.toNat_natCast, hw _ _ _ (by omega) (by omega) q hq]
noncomputable def h_rot : List AV → St → Res
  | [.hs i 0 n 3 none, .int .i64 a, .int .i64 b, .int .i64 k, .clo c [] []], m => match m.h i with
    | some (.arr T 3 n' f) => @Res.need (T = 34 ∧ n' = n ∧ (0 ≤ a ∧ a < b ∧ b < k ∧ k ≤ n) ∧ n ≤ 1000000000 ∧ ∀ q, q < n → isV (f q) = true) (Classical.propDecidable _) (.tup [])
        (m.within (St.small [.arr 34 3 n f] []) (rowG n (rotG (gO n f) a.toNat b.toNat k.toNat)) [i] [])
    | _ => .fail
  | _, _ => .fail
theorem h_rot_ok (xs : List AV) (m : St) : HRok Tryz.prog GV 232 xs m (h_rot xs m) := by
  unfold h_rot
  split
  · rename_i i n a b k c
    split
    · rename_i T n' f hi
      rintro ⟨rfl, rfl, ⟨h1, h2, h3, h4⟩, hn, hf⟩
      obtain ⟨x, rfl⟩ := Int.eq_ofNat_of_zero_le h1
      obtain ⟨y, rfl⟩ := Int.eq_ofNat_of_zero_le (show 0 ≤ b by omega)
      obtain ⟨z, rfl⟩ := Int.eq_ofNat_of_zero_le (show 0 ≤ k by omega)
      exact hc_small (hc_rot n' f x y z c (by omega) (by omega) (by omega) hn hf) [i] [] (Nat.le_of_ble_eq_true rfl) (Nat.le_refl _) rfl (by simp) (by simp) ⟨⟨fun j hj => under_V (hf j hj), _, hi, fits_V hf⟩, trivial⟩ trivial
    · trivial
  · trivial
noncomputable def ES2 : Env := ES1.addH 232 h_rot
theorem ES2_ok : EnvOk Tryz.prog ES2 := Env.addH_ok ES1_ok (by kernel_rfl) h_rot_ok

end Go.Proofs.YtejepcnoflahkaaGreatDoor
