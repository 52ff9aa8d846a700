/- slices.Collect upon slices.Values: what comes of a row of values. Lines of the guide's worked proofs of these functions at rows of numbers, turned to values of three cells. -/
import Derived.Test.YtejepcnoflahkaaGreatDoorAM1
import Derived.RangeFuncBox
import Derived.RangeFuncLeaves
import Derived.RangeFuncGives
import Derived.Shelf.Abstract
import Derived.OwnWalkIn
import Derived.TacticsInMore
import Derived.LoopNIn
import Derived.LoopIn
import Derived.Maps.AppendAt
import Derived.Deep.MidRow
import Derived.Maps.RangeWalk
namespace Go.Proofs.YtejepcnoflahkaaGreatDoor
open Go Go.RowKit Go.Shelf
set_option linter.unusedVariables false
set_option linter.unusedSimpArgs false
attribute [local go_sem] Oper.semAt_some

/-- the three cells of a value -/
def cV (v : V) : Array Value := #[.int .u8 v.k, .int .i64 v.n, .string ⟨v.s.toArray⟩]
def uptoV (l : List V) (k : Nat) : List V := l.take k
theorem info_V : (Tryz.prog.info? 34).map (·.size) = some 3 := by kernel_rfl
theorem load_V {w : World} {b o : Nat} {v : V} (h : ∀ j u, (cV v)[j]? = some u → w.cell? ⟨b, o + j, none⟩ = some u) :
    (Instr.loadAt 34 (.pointer (some ⟨b, o, none⟩))).run Tryz.prog w = .ok (.agg (cV v)) w :=
  run_loadAt_mid w b o 34 (cV v).toList _ (fun j u hu => h j u (by simpa using hu)) Tryz.underlying34 rfl info_V

set_option maxRecDepth 100000 in
set_option maxHeartbeats 2000000 in
theorem values1_in (F : Fence) (n : Nat) (hf : F.fn 173) (hro : F.round = none) (hn : 1 ≤ n) (l Bs Bo n₀ b off cap : Nat) (A : Option Addr) (zs : List V) (hreach : zs.length ≤ 1000000000) (hb : zs ≠ [] → b < n₀) (J : List V → World → Prop)
    (hY : ∀ pre x W, J pre W → pre.length < zs.length → n₀ ≤ W.heap.size → YieldAt F (n - 1) Tryz.prog l #[.agg (cV x)] W fun e W' => e = .returned (.bool true) ∧ J (pre ++ [x]) W' ∧ Below n₀ W W')
    (hA : ∀ pre W W', J pre W → Below W.heap.size W W' → J pre W')
    (W : World) (hBs : W.cell? ⟨Bs, Bo, none⟩ = some (.slice A zs.length cap)) (hAd : zs ≠ [] → A = some ⟨b, off, none⟩) (hc : ∀ (j : Nat) (v : V), zs[j]? = some v → ∀ q u, (cV v)[q]? = some u → W.cell? ⟨b, off + j * 3 + q, none⟩ = some u) (h0 : J [] W) (hn0 : n₀ ≤ W.heap.size) :
    CallsIn F n Tryz.prog 173 #[.func (.yield l) #[] #[], .pointer (some ⟨Bs, Bo, none⟩)] W fun e W' => (∃ v, e = .returned v) ∧ J zs W' := by
  refine callsIn_of_wp Tryz.func173 rfl hf ?_ hro
  simp only [Tryz.ntmps173, List.size_toArray, List.length_cons, List.length_nil, Nat.reduceAdd, Nat.reduceSub, Array.replicate_succ, Array.replicate_zero, List.push_toArray, List.append_toArray, List.nil_append, List.cons_append]
  gi_wp2
  gi_loopw [7] (fun i wr => ∃ k : Nat, k ≤ zs.length ∧ i = .int .i64 k ∧ J (zs.take k) wr ∧ Below n₀ W wr)
    (fun i _ => zs.length - (intOf i).toNat)
  case atStart => exact ⟨0, Nat.zero_le _, rfl, h0, Below.refl _ _⟩
  case round =>
    obtain ⟨k, hk, rfl, hJs, hnx⟩ := hrel
    by_cases hlt : k < zs.length
    · have hz : zs ≠ [] := fun e => by rw [e] at hlt; exact absurd hlt (Nat.not_lt_zero _)
      have hb := hb hz
      obtain rfl := hAd hz
      have hbl : b < wr.heap.size := by
        have := hnx.size
        omega
      have hl : ∀ j u, (cV zs[k])[j]? = some u → wr.cell? ⟨b, off + k * 3 + j, none⟩ = some u := fun j u hu => (hnx.cell (p := ⟨b, off + k * 3 + j, none⟩) hb).trans (hc k zs[k] (by simp) j u hu)
      have l0 : wr.cell? ⟨b, off + k * 3, none⟩ = some (.int .u8 zs[k].k) := hl 0 _ rfl
      have l1 : wr.cell? ⟨b, off + k * 3 + 1, none⟩ = some (.int .i64 zs[k].n) := hl 1 _ rfl
      have l2 : wr.cell? ⟨b, off + k * 3 + 2, none⟩ = some (.string ⟨zs[k].s.toArray⟩) := hl 2 _ rfl
      have eT : zs.take (k + 1) = zs.take k ++ [zs[k]] := by rw [List.take_add_one]; simp [List.getElem?_eq_getElem hlt]
      clear hl
      generalize zs[k] = v at *
      obtain ⟨fn, tmps, assign, body, hy, hR⟩ := hY _ v (wr.alloc (.cells #[.int .u8 v.k, .int .i64 v.n, .string ⟨v.s.toArray⟩] 34)) (hA _ _ _ hJs ((Below.refl _ wr).alloc (Nat.le_refl _) _)) (by rw [List.length_take]; omega) (by have := hnx.size; simp; omega)
      dsimp only [cV] at hy
      have hlt' : (k : Int) < (zs.length : Int) := by omega
      gi_wp2
      refine hR.mono ?_
      rintro e W3 ⟨rfl, hJ3, hk3⟩
      gi_wp2
      go_roundw
      case rel => exact ⟨k + 1, by omega, by simp, by rw [eT]; exact hJ3, (hnx.alloc (by have := hnx.size; omega) _).trans hk3⟩
      case measure => simp [intOf]; omega
    · obtain rfl : k = zs.length := by omega
      gi_wp2
      go_end0
      exact ⟨⟨_, rfl⟩, by rw [List.take_length] at hJs; exact hJs⟩

/-! ### slices.AppendSeq(nil, ..) -/
noncomputable def apAssign : Code := match Tryz.f199.body with | some (.seq _ (.seq (.seq _ (.block _ (.rangeFunc _ _ a _))) _)) => a | _ => .skip
noncomputable def apBody : Code := match Tryz.f199.body with | some (.seq _ (.seq (.seq _ (.block _ (.rangeFunc _ _ _ c))) _)) => c | _ => .skip
/-- The loop's record: AppendSeq's temporaries as they stood at the entering: 's' boxed in block Bs; sv: the iterator's value. -/
noncomputable def apRec (fn : FuncId) (sv : Value) (Bs D : Nat) (st : LoopState) (pend : Option Code) : Loop :=
  { state := st, pending := pend, fn, tmps := #[.slice none 0 0, sv, .pointer (some ⟨Bs, 0, none⟩), undef, .slice none 0 0, undef, sv, undef, undef, undef, undef, undef, undef], params := #[7], assign := apAssign, body := apBody, defers := D }
def rowsV (l : List V) : List Value := l.flatMap fun v => (cV v).toList
theorem rowsV_len (l : List V) : (rowsV l).length = l.length * 3 := by
  induction l with
  | nil => rfl
  | cons v l ih =>
    have : rowsV (v :: l) = (cV v).toList ++ rowsV l := rfl
    rw [this, List.length_append, ih, List.length_cons]
    show 3 + _ = _
    omega
theorem rowsV_app (l : List V) (v : V) : rowsV (l ++ [v]) = rowsV l ++ (cV v).toList := by simp [rowsV]
/-- BETWEEN TWO ROUNDS. -/
structure ApAt (w0 : World) (fn : FuncId) (sv : Value) (Bs l D : Nat) (ss : List V) (W : World) : Prop where
  box : ∃ v, W.heap[Bs]? = some (.cells #[v] 22 (0, 0)) ∧ W.ownsRow w0.heap.size 34 3 v ss.length (rowsV ss) ∧ (v = .slice none 0 0 ↔ ss = [])
  L : W.heap[l]? = some (.loop (apRec fn sv Bs D .ready none))
  K : W.heap[D]? = some (.deferred (some []))
  below : Below w0.heap.size w0 W
theorem ownsRow_below {W W' : World} {base : Nat} {e : TypeId} {size : Nat} {v : Value} {k : Nat} {xs : List Value} (h : W.ownsRow base e size v k xs) (hb : Below W.heap.size W W') : W'.ownsRow base e size v k xs := by
  refine ⟨h.1, ?_⟩
  rcases h.2 with hn | ⟨g, cap, cur, hv, h1, h2, h3⟩
  · exact .inl hn
  · exact .inr ⟨g, cap, cur, hv, h1, (hb.block g (Array.getElem?_eq_some_iff.1 h2).1).trans h2, h3⟩
theorem ap_later {w0 : World} {fn : FuncId} {sv : Value} {Bs l D : Nat} {ss : List V} {W W' : World} (h : ApAt w0 fn sv Bs l D ss W) (hb : Below W.heap.size W W') : ApAt w0 fn sv Bs l D ss W' := by
  obtain ⟨v, hv, hr, hn⟩ := h.box
  have at_ : ∀ {j : Nat} {o : Obj}, W.heap[j]? = some o → W'.heap[j]? = some o := fun hj => (hb.block _ (Array.getElem?_eq_some_iff.1 hj).1).trans hj
  exact ⟨⟨v, at_ hv, ownsRow_below hr hb, hn⟩, at_ h.L, at_ h.K, h.below.trans (hb.mono h.below.size)⟩
theorem u_put (W : World) (l : Nat) (o : Obj) : W.grownBy (W.putObj l o) (some l) :=
  ⟨rfl, rfl, rfl, by simp, fun k _ hk => World.putObj_heap_other (fun e => hk (by rw [e]))⟩
theorem u_set (W : World) (b : Nat) (v : Value) : W.grownBy (W.setCell ⟨b, 0, none⟩ v) (some b) :=
  ⟨rfl, rfl, rfl, (KeepsWalks.setCell W _ v).size, fun k _ hk => Below.heap_setCell _ _ _ k (fun e => hk (by rw [e]))⟩
theorem u_ne {W : World} {base : Nat} {e : TypeId} {size : Nat} {v : Value} {k : Nat} {xs : List Value} (h : W.ownsRow base e size v k xs) {j : Nat} {o : Obj} (hj : W.heap[j]? = some o) (hno : ∀ cur, o ≠ .cells cur e (0, 0)) :
    v.ownBlock = none ∨ v.ownBlock ≠ some j := by
  rcases h.2 with ⟨rfl, _⟩ | ⟨g, cap, cur, rfl, _, hgb, _⟩
  · exact .inl rfl
  · refine .inr fun e' => ?_
    have : g = j := by simpa [Value.ownBlock] using e'
    subst this; rw [hgb] at hj; cases hj; exact hno cur rfl
theorem u_box {W : World} {B : Nat} {v : Value} {t : TypeId} (h : W.heap[B]? = some (.cells #[v] t (0, 0))) : W.cell? ⟨B, 0, none⟩ = some v ∧ W.frozen? ⟨B, 0, none⟩ = false := by
  constructor <;> simp [World.cell?, World.frozen?, h]
theorem u_setbox {W : World} {B : Nat} {v : Value} {t : TypeId} (v' : Value) (h : W.heap[B]? = some (.cells #[v] t (0, 0))) : (W.setCell ⟨B, 0, none⟩ v').heap[B]? = some (.cells #[v'] t (0, 0)) := by
  obtain ⟨hlt, hk⟩ := Array.getElem?_eq_some_iff.1 h
  show (W.heap.modify B _)[B]? = _
  rw [Array.getElem?_eq_getElem (by rw [Array.size_modify]; exact hlt), Array.getElem_modify_self, hk]
  rfl
set_option maxRecDepth 100000 in
theorem info_VV : ∃ i, Tryz.prog.info? 34 = some i ∧ i.zero = some (.agg #[.int .u8 0, .int .i64 0, .string ⟨#[]⟩]) ∧ i.size = 3 ∧ i.bytes = 32 := by
  refine ⟨_, rfl, ?_, ?_, ?_⟩ <;> kernel_rfl
theorem cells_new (w : World) (a b c : Value) (t : TypeId) : ∀ j u, [a, b, c][j]? = some u → (w.alloc (.cells #[a, b, c] t)).cell? ((⟨w.heap.size, 0, none⟩ : Addr).add j) = some u := fun j u hu => by
  rw [Addr.add_mid, Nat.zero_add]
  have h : (w.alloc (.cells #[a, b, c] t)).heap[w.heap.size]? = some (.cells #[a, b, c] t (0, 0)) := World.alloc_heap_new w _
  simp only [World.cell?, h]
  simpa using hu

set_option maxRecDepth 100000 in
set_option maxHeartbeats 2000000 in
theorem apYield (F : Fence) (m : Nat) (w0 : World) (fn : FuncId) (hfn : F.fn fn) (sv : Value) (Bs l D : Nat) (hBl : Bs ≠ l) (hDl : D ≠ l) (hDB : D ≠ Bs) (h0B : w0.heap.size ≤ Bs) (h0l : w0.heap.size ≤ l)
    (ss : List V) (x : V) (W : World) (h : ApAt w0 fn sv Bs l D ss W) (hlen : ss.length < 1000000000) :
    YieldAt F m Tryz.prog l #[.agg (cV x)] W fun e W' => e = .returned (.bool true) ∧ ApAt w0 fn sv Bs l D (ss ++ [x]) W' ∧ Below w0.heap.size W W' := by
  obtain ⟨i0, hi, hz0, hz1, hz2⟩ := info_VV
  refine ⟨fn, #[.slice none 0 0, sv, .pointer (some ⟨Bs, 0, none⟩), undef, .slice none 0 0, undef, sv, .agg (cV x), undef, undef, undef, undef, undef], apAssign, apBody, by simpa [apRec] using run_yield (P := Tryz.prog) (args := #[.agg (cV x)]) h.L rfl, roundIn_of_wpIn hfn ?_⟩
  have hlb : l < W.heap.size := (Array.getElem?_eq_some_iff.1 h.L).1
  have hb0 : Below W.heap.size W (W.alloc (.cells #[.int .u8 x.k, .int .i64 x.n, .string ⟨x.s.toArray⟩] 34)) := (Below.refl _ W).alloc (Nat.le_refl _) _
  have h := ap_later h hb0
  dsimp only [cV]
  simp only [apAssign, Tryz.f199]
  gi_wp2
  have hx0 : ∀ j u, [Value.int .u8 x.k, .int .i64 x.n, .string ⟨x.s.toArray⟩][j]? = some u → (W.alloc (.cells #[.int .u8 x.k, .int .i64 x.n, .string ⟨x.s.toArray⟩] 34)).cell? ((⟨W.heap.size, 0, none⟩ : Addr).add j) = some u := cells_new W _ _ _ _
  have hlt0 : W.heap.size < (W.alloc (.cells #[.int .u8 x.k, .int .i64 x.n, .string ⟨x.s.toArray⟩] 34)).heap.size := by simp
  generalize W.alloc (.cells #[.int .u8 x.k, .int .i64 x.n, .string ⟨x.s.toArray⟩] 34) = W1 at *
  generalize W.heap.size = bx at *
  obtain ⟨v, hv, hrow, _⟩ := h.box
  have hl : l < W1.heap.size := (Array.getElem?_eq_some_iff.1 h.L).1
  have hbr := run_beginRound (P := Tryz.prog) h.L rfl
  obtain ⟨W2, hW2⟩ : ∃ W2, W1.putObj l (.loop { apRec fn sv Bs D .ready none with state := .busy }) = W2 := ⟨_, rfl⟩
  rw [hW2] at hbr
  have hg2 : W1.grownBy W2 (some l) := by rw [← hW2]; exact u_put _ _ _
  have hv2 : W2.heap[Bs]? = some (.cells #[v] 22 (0, 0)) := by rw [← hW2]; exact (World.putObj_heap_other hBl).trans hv
  have hK2 : W2.heap[D]? = some (.deferred (some [])) := by rw [← hW2]; exact (World.putObj_heap_other hDl).trans h.K
  have hL2 : W2.heap[l]? = some (.loop { apRec fn sv Bs D .ready none with state := .busy }) := by rw [← hW2]; exact World.putObj_heap_same hl
  have hx2 : ∀ j u, [Value.int .u8 x.k, .int .i64 x.n, .string ⟨x.s.toArray⟩][j]? = some u → W2.cell? ⟨bx, j, none⟩ = some u := fun j u hu => by
    have := hx0 j u hu
    rw [Addr.add_mid, Nat.zero_add] at this
    rw [← hW2]
    have e : (W1.putObj l (.loop { apRec fn sv Bs D .ready none with state := .busy })).heap[bx]? = W1.heap[bx]? := World.putObj_heap_other (by omega)
    simp only [World.cell?, e] at this ⊢
    exact this
  have l0 : W2.cell? ⟨bx, 0, none⟩ = some (.int .u8 x.k) := hx2 0 _ rfl
  have l1 : W2.cell? ⟨bx, 1, none⟩ = some (.int .i64 x.n) := hx2 1 _ rfl
  have l2 : W2.cell? ⟨bx, 2, none⟩ = some (.string ⟨x.s.toArray⟩) := hx2 2 _ rfl
  have hrow2 : W2.ownsRow w0.heap.size 34 3 v ss.length (rowsV ss) := hrow.kept hg2 (u_ne hrow h.L (fun cur e => by cases e))
  have hb2 : Below w0.heap.size w0 W2 := h.below.grown hg2 h.below.size (fun k e => by cases e; exact h0l)
  have hB2 : Below w0.heap.size W W2 := (hb0.mono (by have := h.below.size; have := hb0.size; omega)).trans ((Below.refl _ W1).grown hg2 h.below.size (fun k e => by cases e; exact h0l))
  obtain ⟨hc2, hf2⟩ := u_box hv2
  have hBlt : Bs < W2.heap.size := (Array.getElem?_eq_some_iff.1 hv2).1
  have hl2 : l < W2.heap.size := (Array.getElem?_eq_some_iff.1 hL2).1
  have hDlt : D < W2.heap.size := (Array.getElem?_eq_some_iff.1 hK2).1
  have hs2 := hb2.size
  have hne : 22 ≠ 34 := by decide
  have ne_of : ∀ {j : Nat} {o : Obj}, W2.heap[j]? = some o → (∀ cur, o ≠ .cells cur 34 (0, 0)) → some j ≠ v.ownBlock := fun hj hno => by
    rcases u_ne hrow2 hj hno with e | e
    · rw [e]; simp
    · exact fun e' => e e'.symm
  clear hW2
  refine ⟨W2, hbr, ?_⟩
  simp only [apBody, Tryz.f199]
  gi_wp2_with (first
    | (gi_at_builtin; refine wpListIn_append_own _ rfl _ _ 22 rfl w0.heap.size 34 i0 (.agg #[.int .u8 0, .int .i64 0, .string ⟨#[]⟩]) 3 32 Tryz.underlying22 hi hz0 hz1 hz2 rfl (by decide) _ _ _ rfl (ownsRow_below hrow2 ((Below.refl _ W2).alloc (Nat.le_refl _) _)) ⟨W2.heap.size, 0, none⟩ 1 1 [.int .u8 x.k, .int .i64 x.n, .string ⟨x.s.toArray⟩] rfl rfl (cells_new _ _ _ _ _) (by simp [Value.oneCell']) (by show ss.length + 1 ≤ 9223372036854775807; omega) (by omega) (by simp; omega) ?_; intro v' w3 hown' hg3 hnil3
       have hg3 : (W2.alloc (.cells #[.int .u8 x.k, .int .i64 x.n, .string ⟨x.s.toArray⟩] 34)).grownBy w3 v.ownBlock := hg3
       have hv3 : w3.heap[Bs]? = some (.cells #[v] 22 (0, 0)) := (hg3.block Bs (by simp; omega) (ne_of hv2 (fun cur e => hne (Obj.cells.inj e).2.1))).trans ((Below.heap_alloc _ _ Bs hBlt).trans hv2)
       obtain ⟨hc3, hf3⟩ := u_box hv3
       obtain ⟨g', cap', cur', rfl, hbase', hgb', hr1, hr2, hr3, hr4⟩ : ∃ g' cap' cur', v' = .slice (some ⟨g', 0, none⟩) (ss.length + 1) cap' ∧ w0.heap.size ≤ g' ∧ w3.heap[g']? = some (.cells cur' 34 (0, 0)) ∧ ss.length + 1 ≤ cap' ∧ cap' ≤ maxLen ∧ cur'.size = cap' * 3 ∧ cur'.toList.take ((ss.length + 1) * 3) = rowsV ss ++ [.int .u8 x.k, .int .i64 x.n, .string ⟨x.s.toArray⟩] := by
         rcases hown'.2 with ⟨_, h0⟩ | h'
         · exact absurd h0 (by omega)
         · exact h'
       go_frame)
    | gi_in)
  have hL3 : w3.heap[l]? = some (.loop { apRec fn sv Bs D .ready none with state := .busy }) := (hg3.block l (by simp; omega) (ne_of hL2 (fun cur e => by cases e))).trans ((Below.heap_alloc _ _ l hl2).trans hL2)
  have hK3 : w3.heap[D]? = some (.deferred (some [])) := (hg3.block D (by simp; omega) (ne_of hK2 (fun cur e => by cases e))).trans ((Below.heap_alloc _ _ D hDlt).trans hK2)
  obtain ⟨w4, hw4⟩ : ∃ w4, w3.setCell ⟨Bs, 0, none⟩ (.slice (some ⟨g', 0, none⟩) (ss.length + 1) cap') = w4 := ⟨_, rfl⟩
  rw [hw4]
  have hg4 : w3.grownBy w4 (some Bs) := by rw [← hw4]; exact u_set _ _ _
  have hv4 : w4.heap[Bs]? = some (.cells #[.slice (some ⟨g', 0, none⟩) (ss.length + 1) cap'] 22 (0, 0)) := by rw [← hw4]; exact u_setbox _ hv3
  have hL4 : w4.heap[l]? = some (.loop { apRec fn sv Bs D .ready none with state := .busy }) := (hg4.block l (Array.getElem?_eq_some_iff.1 hL3).1 (fun e => hBl (by cases e; rfl))).trans hL3
  have hK4 : w4.heap[D]? = some (.deferred (some [])) := (hg4.block D (Array.getElem?_eq_some_iff.1 hK3).1 (fun e => hDB (by cases e; rfl))).trans hK3
  have hrow4 := hown'.kept hg4 (u_ne hown' hv3 (fun cur e => hne (Obj.cells.inj e).2.1))
  have hl4 : l < w4.heap.size := (Array.getElem?_eq_some_iff.1 hL4).1
  have hb3 : Below w0.heap.size W2 w3 := ((Below.refl _ W2).alloc hs2 _).grown hg3 (by simp; omega) (fun k e => (hrow2.lt k e).1)
  have hb4 : Below w0.heap.size W2 w4 := hb3.grown hg4 (by have := hb3.size; omega) (fun k e => by cases e; exact h0B)
  clear hw4
  have hb5 : Below w0.heap.size W2 (w4.putObj l (.loop { { apRec fn sv Bs D .ready none with state := .busy } with state := if (none : Option Code).isNone then .ready else .done, pending := none })) := hb4.grown (u_put _ _ _) (by have := hb4.size; omega) (fun k e => by cases e; exact h0l)
  refine ⟨_, _, run_endRound none hL4, rfl, ⟨⟨_, (World.putObj_heap_other hBl).trans hv4, ?_, by simp⟩, World.putObj_heap_same hl4, (World.putObj_heap_other hDl).trans hK4, hb2.trans hb5⟩, hB2.trans hb5⟩
  have := hrow4.kept (u_put w4 l (.loop { { apRec fn sv Bs D .ready none with state := .busy } with state := if (none : Option Code).isNone then .ready else .done, pending := none })) (u_ne hrow4 hL4 (fun cur e => by cases e))
  rw [rowsV_app, List.length_append]
  exact this
/-! ### The whole -/
/-- an iterator that gives these values -/
def SeqV (F : Fence) (n g : Nat) (lb : Array Value) (zs : List V) (w : World) : Prop :=
  ∀ (l : Nat) (J : List V → World → Prop) (W : World), Below w.heap.size w W → (∀ pre W W', J pre W → Below W.heap.size W W' → J pre W') →
    (∀ pre x W1, J pre W1 → pre.length < zs.length → w.heap.size ≤ W1.heap.size → YieldAt F (n - 1) Tryz.prog l #[.agg (cV x)] W1 fun e W' => e = .returned (.bool true) ∧ J (pre ++ [x]) W' ∧ Below w.heap.size W1 W') →
    J [] W → CallsIn F n Tryz.prog g (#[.func (.yield l) #[] #[]] ++ lb) W fun e W' => (∃ v, e = .returned v) ∧ J zs W'
theorem values_seq (F : Fence) (n : Nat) (hf : F.fn 173) (hro : F.round = none) (hn : 1 ≤ n) (Bs Bo b off cap : Nat) (A : Option Addr) (zs : List V) (hreach : zs.length ≤ 1000000000) (w : World) (hAd : zs ≠ [] → A = some ⟨b, off, none⟩)
    (hBs : w.cell? ⟨Bs, Bo, none⟩ = some (.slice A zs.length cap)) (hc : ∀ (j : Nat) (v : V), zs[j]? = some v → ∀ q u, (cV v)[q]? = some u → w.cell? ⟨b, off + j * 3 + q, none⟩ = some u) : SeqV F n 173 #[.pointer (some ⟨Bs, Bo, none⟩)] zs w := by
  intro l J W hb hA hY h0
  have hlt : ∀ {b o : Nat} {v : Value}, w.cell? ⟨b, o, none⟩ = some v → b < w.heap.size := fun h => by simpa using World.block_lt_of_cell? w ⟨_, _, none⟩ h
  have cong : ∀ {b o : Nat} {v : Value}, w.cell? ⟨b, o, none⟩ = some v → W.cell? ⟨b, o, none⟩ = some v := fun h => (hb.cell (p := ⟨_, _, none⟩) (hlt h)).trans h
  refine values1_in F n hf hro hn l Bs Bo w.heap.size b off cap A zs hreach (fun hz => ?_) J hY hA W (cong hBs) hAd (fun j v hj q u hu => cong (hc j v hj q u hu)) h0 hb.size
  cases zs with
  | nil => exact absurd rfl hz
  | cons z zs => exact hlt (hc 0 z rfl 0 _ rfl)

set_option maxRecDepth 100000 in
set_option maxHeartbeats 2000000 in
theorem appendSeq_in (F : Fence) (n : Nat) (h11 : F.fn 199) (hro : F.round = none) (hn : 2 ≤ n) (g : Nat) (lb : Array Value) (hFg : F.fn g) (eg : ∀ args w, (callFunc g args).run Tryz.prog w = .ok (.enter g args) w)
    (zs : List V) (hN : zs.length ≤ 1000000000) (w : World) (hseq : SeqV F (n - 1) g lb zs w) :
    CallsIn F n Tryz.prog 199 #[.slice none 0 0, .func (.func g) #[] lb] w fun e w' => ∃ (v : Value), e = .returned v ∧ w'.ownsRow w.heap.size 34 3 v zs.length (rowsV zs) ∧ Below w.heap.size w w' := by
  have h1 : 1 ≤ n := by omega
  have hne : 22 ≠ 34 := by decide
  refine callsIn_of_wp_marks Tryz.func199 rfl h11 ?_ hro
  simp only [Tryz.ntmps199, List.size_toArray, List.length_cons, List.length_nil, Nat.reduceAdd, Nat.reduceSub, Array.replicate_succ, Array.replicate_zero, List.push_toArray, List.append_toArray, List.nil_append, List.cons_append]
  gi_wp2
  refine wpIn_rangeFunc ?_
  intro fn hfn
  rw [hro]
  obtain ⟨W0, hW0⟩ : ∃ W0, w.alloc (.cells #[.slice none 0 0] 22) = W0 := ⟨_, rfl⟩
  have hs0 : W0.heap.size = w.heap.size + 1 := by rw [← hW0]; simp
  have hv0 : W0.heap[w.heap.size]? = some (.cells #[.slice none 0 0] 22 (0, 0)) := by rw [← hW0]; exact World.alloc_heap_new w _
  have hb0 : Below w.heap.size w W0 := by rw [← hW0]; exact (Below.refl _ w).alloc (Nat.le_refl _) _
  rw [hW0]
  obtain ⟨W1, hW1⟩ : ∃ W1, (W0.alloc (.deferred (some []))).alloc (.loop (apRec fn (.func (.func g) #[] lb) w.heap.size W0.heap.size .ready none)) = W1 := ⟨_, rfl⟩
  have hold : ∀ k, k < W0.heap.size → W1.heap[k]? = W0.heap[k]? := fun k hk => by
    rw [← hW1]; exact (Below.heap_alloc _ _ k (by simp; omega)).trans (Below.heap_alloc _ _ k hk)
  have hb1 : Below w.heap.size w W1 := by rw [← hW1]; exact (hb0.alloc hb0.size _).alloc (by have := hb0.size; simp; omega) _
  have hs1 : W1.heap.size = W0.heap.size + 2 := by rw [← hW1]; simp
  have hM : ApAt w fn (.func (.func g) #[] lb) w.heap.size (W0.heap.size + 1) W0.heap.size [] W1 :=
    ⟨⟨_, (hold w.heap.size (by omega)).trans hv0, ⟨rfl, .inl ⟨rfl, rfl⟩⟩, by simp⟩,
     by rw [← hW1]; have := World.alloc_heap_new (W0.alloc (.deferred (some []))) (.loop (apRec fn (.func (.func g) #[] lb) w.heap.size W0.heap.size .ready none)); rwa [World.size_alloc] at this,
     by rw [← hW1]; exact (Below.heap_alloc _ _ _ (by simp)).trans (World.alloc_heap_new W0 _), hb1⟩
  refine ⟨W0.heap.size + 1, [{ target := .collected W0.heap.size, args := #[] }], W1, { target := .fn (.func g) lb, args := #[.func (.yield (W0.heap.size + 1)) #[] #[]] }, W1, g,
    #[.func (.yield (W0.heap.size + 1)) #[] #[]] ++ lb, W1, ?_, ?_, ?_, ?_, fun _ => h1, ?_⟩
  · rw [← hW1]; exact run_enterLoop_outer _ _ _ _ _
  · simp [resolve, go_sem]
  · intro f' hf'; simp [Target.leads] at hf'; subst hf'; exact hFg
  · simp [invoke, go_sem, eg]
  · refine (hseq (W0.heap.size + 1) (ApAt w fn (.func (.func g) #[] lb) w.heap.size (W0.heap.size + 1) W0.heap.size) W1 hb1 (fun pre W W' h hb => ap_later h hb)
      (fun pre x W hJ hl hsz => apYield F (n - 1 - 1) w fn hfn _ w.heap.size (W0.heap.size + 1) W0.heap.size (by omega) (by omega) (by omega) (Nat.le_refl _) (by omega) pre x W hJ (by omega)) hM).mono ?_
    rintro e W2 ⟨⟨v0, rfl⟩, h2⟩
    obtain ⟨v, hv, hrow, hnil⟩ := h2.box
    have hend := run_endLoop (P := Tryz.prog) h2.L (by simp [apRec])
    obtain ⟨W3, hW3⟩ : ∃ W3, W2.putObj (W0.heap.size + 1) (.loop { apRec fn (.func (.func g) #[] lb) w.heap.size W0.heap.size .ready none with state := .exhausted }) = W3 := ⟨_, rfl⟩
    rw [hW3] at hend
    have hg3 : W2.grownBy W3 (some (W0.heap.size + 1)) := by rw [← hW3]; exact u_put _ _ _
    have hv3 : W3.heap[w.heap.size]? = some (.cells #[v] 22 (0, 0)) := by rw [← hW3]; exact (World.putObj_heap_other (by omega)).trans hv
    have hK3 : W3.heap[W0.heap.size]? = some (.deferred (some [])) := by rw [← hW3]; exact (World.putObj_heap_other (by omega)).trans h2.K
    have hrow3 := hrow.kept hg3 (u_ne hrow h2.L (fun cur e => by cases e))
    have hb3 : Below w.heap.size w W3 := h2.below.grown hg3 h2.below.size (fun k e => by cases e; omega)
    obtain ⟨hc3, hf3⟩ := u_box hv3
    clear hW3
    refine ⟨none, W3, hend, ?_⟩
    gi_wp2
    rw [← hs0]
    refine ⟨by simp, .inl ⟨_, _, rfl, run_takeDeferred hK3, ?_⟩⟩
    exact ⟨_, results_tmp rfl _ _ _, v, rfl, hrow3.kept (u_put _ _ _) (u_ne hrow3 hK3 (fun cur e => by cases e)), hb3.grown (u_put _ _ _) hb3.size (fun k e => by cases e; omega)⟩
theorem append_calls (Bs Bo b off cap : Nat) (A : Option Addr) (zs : List V) (hN : zs.length ≤ 1000000000) (w : World) (hAd : zs ≠ [] → A = some ⟨b, off, none⟩)
    (hBs : w.cell? ⟨Bs, Bo, none⟩ = some (.slice A zs.length cap)) (hc : ∀ (j : Nat) (v : V), zs[j]? = some v → ∀ q u, (cV v)[q]? = some u → w.cell? ⟨b, off + j * 3 + q, none⟩ = some u) :
    Calls Tryz.prog 199 #[.slice none 0 0, .func (.func 173) #[] #[.pointer (some ⟨Bs, Bo, none⟩)]] w fun e w' => ∃ (v : Value), e = .returned v ∧ w'.ownsRow w.heap.size 34 3 v zs.length (rowsV zs) ∧ Below w.heap.size w w' :=
  (appendSeq_in { fn := fun _ => True } 2 trivial rfl (Nat.le_refl _) 173 _ trivial (enters_of Tryz.func173 (by kernel_rfl) rfl) zs hN w (values_seq _ _ trivial rfl (by decide) Bs Bo b off cap A zs hN w hAd hBs hc)).calls (fun k d hd => by cases hd)
end Go.Proofs.YtejepcnoflahkaaGreatDoor
