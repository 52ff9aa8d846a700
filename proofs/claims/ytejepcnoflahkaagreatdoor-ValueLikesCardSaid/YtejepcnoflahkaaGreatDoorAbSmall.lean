/- The symbolic evaluator: contracts told of a small memory, laid upon any. -/
import Derived.Test.YtejepcnoflahkaaGreatDoorAbRun
namespace Go.Ab
set_option linter.unusedVariables false

/-- a small memory: blocks 0, 1, ..; owners 0, 1, .. -/
def St.small (bs : List Blk) (ks : List (Nat × Nat)) : St := ⟨0, .leaf, fun i => bs[i]?, bs.length, fun t => ks[t]?, ks.length⟩
def FitsB (M : St) (nx nk : Nat) (ρ θ : Nat → Nat) : List Blk → List Nat → Prop
  | [], [] => True
  | b :: bs, j :: l => (underB nx nk b ∧ ∃ b2, M.h j = some b2 ∧ leB b2 (renB ρ θ b)) ∧ FitsB M nx nk ρ θ bs l
  | _, _ => False
def FitsK (M : St) : List (Nat × Nat) → List Nat → Prop
  | [], [] => True
  | k :: ks, u :: l => M.k u = some k ∧ FitsK M ks l
  | _, _ => False
theorem FitsB.at_ {M : St} {nx nk : Nat} {ρ θ : Nat → Nat} : ∀ {bs : List Blk} {l : List Nat}, FitsB M nx nk ρ θ bs l → l.length = bs.length ∧ ∀ (i : Nat) b, bs[i]? = some b → ∃ j b2, l[i]? = some j ∧ underB nx nk b ∧ M.h j = some b2 ∧ leB b2 (renB ρ θ b)
  | [], [], _ => ⟨rfl, fun i b h => by simp at h⟩
  | b :: bs, j :: l, h => by
    obtain ⟨⟨h1, b2, h2, h2'⟩, h3⟩ := h
    obtain ⟨h4, h5⟩ := FitsB.at_ h3
    refine ⟨by simp [h4], fun i b' hi => ?_⟩
    cases i with
    | zero => simp at hi; subst hi; exact ⟨j, b2, by simp, h1, h2, h2'⟩
    | succ i => simp at hi; obtain ⟨j', b2, k1, k2, k3⟩ := h5 i b' hi; exact ⟨j', b2, by simpa using k1, k2, k3⟩
  | [], _ :: _, h => h.elim
  | _ :: _, [], h => h.elim
theorem FitsK.at_ {M : St} : ∀ {ks : List (Nat × Nat)} {l : List Nat}, FitsK M ks l → l.length = ks.length ∧ ∀ (i : Nat) k, ks[i]? = some k → ∃ u, l[i]? = some u ∧ M.k u = some k
  | [], [], _ => ⟨rfl, fun i b h => by simp at h⟩
  | b :: bs, j :: l, h => by
    obtain ⟨h2, h3⟩ := h
    obtain ⟨h4, h5⟩ := FitsK.at_ h3
    refine ⟨by simp [h4], fun i b' hi => ?_⟩
    cases i with
    | zero => simp at hi; subst hi; exact ⟨j, by simp, h2⟩
    | succ i => simp at hi; obtain ⟨j', k1, k3⟩ := h5 i b' hi; exact ⟨j', by simpa using k1, k3⟩
  | [], _ :: _, h => h.elim
  | _ :: _, [], h => h.elim
theorem get_lt {α : Type} {l : List α} {i : Nat} (h : i < l.length) : ∃ x, l[i]? = some x := ⟨_, List.getElem?_eq_getElem h⟩
theorem hc_small {P : Program} {G : World → Prop} {f : FuncId} {args : List AV} {bs : List Blk} {ks : List (Nat × Nat)} {m' : St} {r : AV} (hp : HC P G f args (St.small bs ks) r m') {M : St} (l lt : List Nat)
    (hx : bs.length ≤ m'.nx) (hk : ks.length ≤ m'.nk) (hau : underL bs.length ks.length args = true) (hnd : l.Nodup) (hndk : lt.Nodup)
    (hb : FitsB M bs.length ks.length (nam l M.nx) (nam lt M.nk) bs l) (hks : FitsK M ks lt) :
    HC P G f (renL (nam l M.nx) (nam lt M.nk) args) M (ren (nam l M.nx) (nam lt M.nk) r) (M.within (St.small bs ks) m' l lt) := by
  obtain ⟨hl, hb'⟩ := hb.at_
  obtain ⟨hlk, hk'⟩ := hks.at_
  intro X cargs hg hr ha
  have w : Within (St.small bs ks) M l lt := {
    nd := hnd
    below := fun a hm => by
      obtain ⟨i, hi⟩ := List.getElem?_of_mem hm
      have hlt := (List.getElem?_eq_some_iff.1 hi).1
      obtain ⟨b, hbi⟩ := get_lt (l := bs) (by rw [← hl]; exact hlt)
      obtain ⟨j, b2, h1, h2, h3, h4⟩ := hb' i b hbi
      rw [hi] at h1; cases h1
      exact (hr.heap _ _ h3).1
    len := hl
    ndk := hndk
    belowk := fun a hm => by
      obtain ⟨i, hi⟩ := List.getElem?_of_mem hm
      have hlt := (List.getElem?_eq_some_iff.1 hi).1
      obtain ⟨b, hbi⟩ := get_lt (l := ks) (by rw [← hlk]; exact hlt)
      obtain ⟨j, h1, h3⟩ := hk' i b hbi
      rw [hi] at h1; cases h1
      exact hr.kn _ _ h3
    lenk := hlk
    hb := fun i hi => by
      obtain ⟨b, hbi⟩ := get_lt (l := bs) hi
      obtain ⟨j, b2, h1, h2, h3⟩ := hb' i b hbi
      refine ⟨b, b2, hbi, h2, ?_⟩
      have : nam l M.nx i = j := by unfold nam; rw [h1]
      rw [this]; exact h3
    hn := fun i blk hi => (List.getElem?_eq_some_iff.1 hi).1
    k := fun t ht => by
      obtain ⟨b, hbi⟩ := get_lt (l := ks) ht
      obtain ⟨j, h1, h3⟩ := hk' t b hbi
      have : nam lt M.nk t = j := by unfold nam; rw [h1]
      rw [this, h3]; exact hbi.symm
    kn := fun t ht => List.getElem?_eq_none ht }
  exact hc_frame hp w hx hk hau (fun _ _ _ _ h => h) rfl (fun _ _ => rfl) rfl X cargs hg hr ha
end Go.Ab
